/-
  layer 39: slices.Grow of nil, slices.Concat, Letters of the program; slices.Clone. Conditions: at most 16,384 letters.
-/
import Derived.Test.YtcdpadggjkobjaaGreatDoorReads
import Derived.Lib.AppendZerosOnto
import Derived.Lib.Walk
import Derived.Lib.SliceRun
namespace Go.Proofs.YtcdpadggjkobjaaGreatDoor
open Go.RowKit Go.Lib

theorem own_empty (w : World) (t : TypeId) (cs : Array Value) (cap : Nat) (hs : cs.size = cap) (hc : cap ≤ maxLen) : (w.alloc (.cells cs t)).ownsRow w.heap.size t 1 (.slice (some ⟨w.heap.size, 0, none⟩) 0 cap) 0 [] :=
  ⟨rfl, .inr ⟨w.heap.size, cap, cs, rfl, Nat.le_refl _, heap_alloc_new w _, by omega, hc, by omega, by simp⟩⟩
theorem own_drew {w : World} {base : Nat} {e : TypeId} {n : Nat} {v : Value} {xs : List Value} (h : w.ownsRow base e 1 v n xs) : w.drew.ownsRow base e 1 v n xs := h
def OwnS (w : World) (n : Nat) (xs : List Value) (e : Ending) (w' : World) : Prop := ∃ v, e = .returned v ∧ w'.ownsRow w.heap.size 9 1 v n xs ∧ Below w.heap.size w w'
set_option maxRecDepth 100000 in
set_option maxHeartbeats 2000000 in
theorem growS_any (n : Nat) (w : World) (hn : n ≤ 100000) : Calls Tryz.prog 67 #[.slice none 0 0, .int .i64 n] w (OwnS w 0 []) := by
  obtain ⟨i0, hi, hz0, hz1, hz2⟩ := info_parts info_string
  by_cases h0 : n = 0
  · subst h0
    go_enter Tryz.func67, Tryz.ntmps67
    go_wp2
    go_ret
    exact ⟨_, rfl, World.ownsRow_nil _ _ _ _, Below.refl _ _⟩
  · have hG : n ≤ grownCap w (0 + n) 0 9 := by have := grownCap_ge w (0 + n) 0 9; omega
    have hG63 := grownCap_le_maxLen w (0 + n) 0 9 (by unfold maxLen; omega)
    have hrz : ∀ ty, (Builtin.append_ #[22, 3] ty #[.slice none 0 0, .int .i64 (n : Int)]).run Tryz.prog w =
      .ok (.slice (some ⟨w.heap.size, 0, none⟩) (0 + n) (grownCap w (0 + n) 0 9)) (w.drew.alloc (.cells (([] : List Value).toArray ++ Builtin.zeroCells (Value.string ByteArray.empty).cells n ++ Builtin.zeroCells (Value.string ByteArray.empty).cells (grownCap w (0 + n) 0 9 - (0 + n))) 9)) := fun ty =>
      run_append_grow_zeros w 22 3 ty 9 i0 _ .i64 .i64 Tryz.underlying22 Tryz.underlying3 hi hz0 none 0 0 [] (run_firstCells_none w.drew i0.size 0 0 0) n (by omega) (by rw [hz1]; omega) (by omega) (by omega) (by rw [hz2]; omega)
        (growslice_fits (by omega) (by rw [hz2]; omega))
    have hsz : (([] : List Value).toArray ++ Builtin.zeroCells (Value.string ByteArray.empty).cells n ++ Builtin.zeroCells (Value.string ByteArray.empty).cells (grownCap w (0 + n) 0 9 - (0 + n))).size = grownCap w (0 + n) 0 9 := by
      have hzc : ∀ m, (Builtin.zeroCells (Value.string ByteArray.empty).cells m).size = m := fun m => by simp [Builtin.zeroCells, Value.cells]
      rw [Array.size_append, Array.size_append, hzc, hzc]; have h00 : ([] : List Value).toArray.size = 0 := rfl; omega
    generalize grownCap w (0 + n) 0 9 = G at hrz hG hG63 hsz
    generalize ([] : List Value).toArray ++ Builtin.zeroCells (Value.string ByteArray.empty).cells n ++ Builtin.zeroCells (Value.string ByteArray.empty).cells (G - (0 + n)) = cs at hrz hsz
    have HS := Lib.hid hsz
    unfold maxLen at hG63
    rw [Nat.zero_add] at hrz
    have HRZ := Lib.hid hrz
    have hpos : (0 : Int) < n := by omega
    clear hsz hrz hi hz0 hz1 hz2 h0
    go_enter Tryz.func67, Tryz.ntmps67
    go_wp2_with (at_builtin; refine Lib.wpList_append_run _ rfl _ _ _ _ rfl _ _ rfl rfl _ _ (HRZ.out _) ?_)
    go_ret
    exact ⟨_, rfl, own_empty w.drew _ cs G HS.out (by unfold maxLen; omega), ((Below.refl _ w).drew).alloc (Nat.le_refl _) _⟩

/-- A slice of slices of strings, read. -/
def ReadM (w : World) (B : Nat) (A : Option Addr) (n : Nat) (gs : List (List ByteArray)) : Prop :=
  gs.length = n ∧ ∀ (k : Nat) (hk : k < gs.length), ∃ ad A' c', A = some ad ∧ w.cell? (ad.add k) = some (.slice A' gs[k].length c') ∧ (ad.add k).block < B ∧ ReadS w B A' gs[k].length gs[k] ∧ gs[k].length ≤ c' ∧ c' ≤ maxLen
theorem ReadM.below {w w' : World} {B n : Nat} {A : Option Addr} {gs : List (List ByteArray)} (h : ReadM w B A n gs) (hb : Below B w w') : ReadM w' B A n gs :=
  ⟨h.1, fun k hk => by
    obtain ⟨ad, A', c', h1, h2, h3, h4, h5⟩ := h.2 k hk
    exact ⟨ad, A', c', h1, (hb.cell h3).trans h2, h3, h4.below hb, h5⟩⟩
theorem readM_of_own {w : World} {base : Nat} {v : Value} {gs : List (List ByteArray)} (h : OwnM w base 22 9 v (strM gs)) : ∃ A c, v = .slice A gs.length c ∧ ReadM w w.heap.size A gs.length gs ∧ gs.length ≤ c ∧ c ≤ maxLen := by
  obtain ⟨A, c, rfl, h1, h2⟩ := h.form
  have hl : (strM gs).length = gs.length := by simp
  rw [hl] at h1
  refine ⟨A, c, by rw [hl], ⟨rfl, fun k hk => ?_⟩, h1, h2⟩
  obtain ⟨g', c', u, hv, hcu, hu⟩ := h.at_ (k := k) (by rw [hl]; exact hk)
  obtain ⟨A', n', rfl, hn1, hn2⟩ := ownsRow_form hu
  have hR := Reads.of_own hu
  simp only [List.getElem_map, List.length_map] at hR hcu hu hn1
  injection hv with hv1 hv2 hv3
  subst hv1
  refine ⟨⟨g', 0, none⟩, A', n', rfl, ?_, ?_, hR, hn1, hn2⟩
  · rw [add_at]; exact hcu
  · rw [add_at]; exact lt_of_cell hcu
def cntG (gs : List (List ByteArray)) : Nat := gs.flatten.length
theorem sum_take_flatten (gs : List (List ByteArray)) {k : Nat} (hk : k < gs.length) : (gs.take (k + 1)).flatten.length = (gs.take k).flatten.length + gs[k].length := by
  rw [flatten_take_succ hk, List.length_append]

set_option maxRecDepth 20000 in
set_option maxHeartbeats 2000000 in
theorem concat_any (A : Option Addr) (n c : Nat) (gs : List (List ByteArray)) (w : World) (hr : ReadM w w.heap.size A n gs) (hn : n ≤ maxLen) (hl : gs.flatten.length ≤ 16384) :
    Calls Tryz.prog 42 #[.slice A n c] w (GivesS w gs.flatten) := by
  obtain ⟨i0, hi, hz0, hz1, hz2⟩ := info_parts info_string
  have HN := Lib.hid hr.1
  unfold maxLen at hn
  go_enter Tryz.func42, Tryz.ntmps42
  go_wp2
  go_loop [3, 11] (fun t i => ∃ k : Nat, k ≤ n ∧ i = .int .i64 k ∧ t = .int .i64 (cntG (gs.take k) : Nat)) (fun _ i => n - (intOf i).toNat)
  case atStart => exact ⟨0, by omega, rfl, rfl⟩
  case round =>
    obtain ⟨k, hk, rfl, rfl⟩ := hrel
    by_cases hlt : k < n
    · have hkl : k < gs.length := by rw [HN.out]; exact hlt
      obtain ⟨ad, A', c', rfl, h2, h3, h4, h5, h6⟩ := hr.2 k hkl
      have hs : cntG (gs.take (k + 1)) = cntG (gs.take k) + gs[k].length := sum_take_flatten gs hkl
      have hle : cntG (gs.take (k + 1)) ≤ gs.flatten.length := flatten_take_le gs (k + 1)
      have HS := Lib.hid hs
      rw [hs] at hle
      generalize gs[k].length = m at h2 h4 h5 HS hle
      generalize cntG (gs.take k) = t at HS hle
      clear hs
      go_wp2
      go_round
      case rel => exact ⟨k + 1, by omega, by go_num, by rw [HS.out]; go_num⟩
      case measure => simp [intOf]; omega
    · obtain rfl : k = n := by omega
      have hfull : gs.take k = gs := List.take_of_length_le (by rw [HN.out]; exact Nat.le_refl _)
      rw [hfull]
      clear hfull
      have hcg : cntG gs ≤ 16384 := hl
      clear hl
      go_wp2_with fail
      refine (growS_any (cntG gs) w (by omega)).mono ?_
      rintro e w1 ⟨v1, rfl, hown1, hb1⟩
      obtain ⟨A1, c1, rfl, hc11, hc12⟩ := ownsRow_form hown1
      have HR := Lib.hid hr
      clear hr
      go_wp2
      go_loopw [6, 27] (fun v i wr => ∃ (j : Nat), j ≤ k ∧ i = .int .i64 j ∧ wr.ownsRow w.heap.size 9 1 v (cntG (gs.take j)) ((gs.take j).flatten.map Value.string) ∧ Below w.heap.size w wr) (fun _ i _ => k - (intOf i).toNat)
      case atStart => exact ⟨0, by omega, rfl, hown1, hb1⟩
      case round =>
        obtain ⟨j, hj, rfl, hown, hb⟩ := hrel
        by_cases hlt2 : j < k
        · have hjl : j < gs.length := by rw [HN.out]; exact hlt2
          obtain ⟨ad, A', c', rfl, h2, h3, h4, h5, h6⟩ := (HR.out.below hb).2 j hjl
          have hfl := flatten_take_succ hjl
          have hs : cntG (gs.take (j + 1)) = cntG (gs.take j) + gs[j].length := sum_take_flatten gs hjl
          have hle : cntG (gs.take (j + 1)) ≤ gs.flatten.length := flatten_take_le gs (j + 1)
          have hle2 : gs.flatten.length ≤ 16384 := hcg
          rw [hs] at hle
          have HF := Lib.hid hfl; have HS := Lib.hid hs
          clear hfl hs
          go_wp2_with (at_builtin; refine wpList_append_any _ rfl _ _ _ rfl w.heap.size 9 i0 (.string ByteArray.empty) 1 16 Tryz.underlying22 hi hz0 hz1 hz2 rfl (by decide) _ _ _ rfl hown w.heap.size _ _ _ (gs[j].map Value.string) rfl h4 (by intro u hu; obtain ⟨x, _, rfl⟩ := List.mem_map.1 hu; rfl) (by unfold maxLen; omega) (by omega) hb.size ?_; intro v' w2 hown' hgrow _)
          have hb2 : Below w.heap.size w w2 := hb.grown hgrow hb.size (fun g hg => (hown.lt g hg).1)
          clear hgrow hown
          go_roundw
          case rel => exact ⟨j + 1, by omega, by go_num, by rw [HF.out, HS.out]; simpa using hown', hb2⟩
          case measure => simp [intOf]; omega
        · obtain rfl : j = k := by omega
          have hfull : gs.take j = gs := List.take_of_length_le (by rw [HN.out]; exact Nat.le_refl _)
          rw [hfull] at hown
          clear hfull
          go_wp2
          go_ret
          exact ⟨_, rfl, hown, hb⟩
end Go.Proofs.YtcdpadggjkobjaaGreatDoor
