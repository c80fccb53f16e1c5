/-
  The reference's longest, read, Split and Key of layer 39. Conditions: an alphabet in memory as New makes it; texts of at most 65,536 bytes are read.
-/
import Derived.Test.YtcdpadggjkobjaaDoorRef2
namespace Go.Proofs.YtcdpadggjkobjaaDoor
open Go.RowKit

theorem lt_of_cell {w : World} {a : Addr} {v : Value} (h : w.cell? a = some v) : a.block < w.heap.size := by
  rcases Nat.lt_or_ge a.block w.heap.size with h' | h'
  · exact h'
  · rw [World.cell?, Array.getElem?_eq_none h'] at h; cases h

set_option maxRecDepth 20000 in
set_option maxHeartbeats 2000000 in
theorem reflongest_any (g : Nat) (gs : List (List ByteArray)) (s : ByteArray) (w : World) (h : RefAlph w g gs) (hgl : gs.length ≤ maxLen) (_hs : s.size ≤ maxLen) (hgi : ∀ l ∈ gs, l.length ≤ maxLen) (hgx : ∀ l ∈ gs, ∀ x ∈ l, x.size ≤ maxLen) :
    Calls Tryd.prog 74 #[.pointer (some ⟨g, 0, none⟩), .string s] w fun e w' => e = .returned (.tuple #[.string (longest gs s).1, .int .i64 (longest gs s).2]) ∧ w = w' := by
  obtain ⟨base, v, hg, hM⟩ := h
  unfold maxLen at hgl _hs
  obtain ⟨A, c, rfl, hc1, hc2⟩ := hM.form
  have hm := Lib.hid hM
  clear hM
  have hc := hg.cell 1
  simp only [List.getElem?_toArray, List.getElem?_cons_succ, List.getElem?_cons_zero] at hc
  clear hg
  have HL := Lib.hid (show (strM gs).length = gs.length by simp)
  rw [HL.out] at hc hc1
  go_enter Tryd.func74, Tryd.ntmps74
  go_wp2
  go_loop [6, 7, 8] (fun b p i => ∃ (k : Nat) (bs : ByteArray × Int), k ≤ gs.length ∧ i = .int .i64 k ∧ b = .string bs.1 ∧ p = .int .i64 bs.2 ∧ bs = (ents (gs.take k)).foldl (better s) (ByteArray.empty, -1)) (fun _ _ i => gs.length - (intOf i).toNat)
  case atStart => exact ⟨0, (ByteArray.empty, -1), by omega, rfl, rfl, rfl, rfl⟩
  case round =>
    obtain ⟨k, bs, hk, rfl, rfl, rfl, hbs⟩ := hrel
    have HBS := Lib.hid hbs; clear hbs
    by_cases hlt : k < gs.length
    · obtain ⟨g', c', u, hv, hcu, hu⟩ := hm.out.at_ (k := k) (by simpa using hlt)
      obtain ⟨A', n', rfl, hn1, hn2⟩ := ownsRow_form hu
      have hR := Reads.of_own hu
      simp only [List.getElem_map, List.length_map] at hR hcu hn1
      rw [HL.out] at hv
      injection hv with hv1 hv2 hv3
      subst hv1 hv3
      have hgk := hgi gs[k] (List.getElem_mem _)
      have hgxk := hgx gs[k] (List.getElem_mem _)
      unfold maxLen at hgk
      have hes : ents (gs.take (k + 1)) = ents (gs.take k) ++ gs[k].map (·, k) := ents_take_succ hlt
      generalize gs[k] = l at hR hcu hn1 hgk hgxk hes
      have HES := Lib.hid hes
      have HR : Hid (ReadS w w.heap.size A' l.length l) := hR
      clear hes hR hu
      go_wp2_with fail
      go_loop [6, 7, 9] (fun b p i => ∃ (j : Nat) (b1 : ByteArray × Int), j ≤ l.length ∧ i = .int .i64 j ∧ b = .string b1.1 ∧ p = .int .i64 b1.2 ∧ b1 = ((l.take j).map (·, k)).foldl (better s) bs) (fun _ _ i => l.length - (intOf i).toNat)
      case atStart => exact ⟨0, bs, by omega, rfl, rfl, rfl, rfl⟩
      case round =>
        obtain ⟨j, b1, hj, rfl, rfl, rfl, hb1⟩ := hrel
        have HB1 := Lib.hid hb1; clear hb1
        by_cases hjl : j < l.length
        · obtain ⟨ad, hA, _, hcj⟩ := HR.out.at_ (k := j) hjl
          subst hA
          have hstep : ((l.take (j + 1)).map (·, k)).foldl (better s) bs = better s (((l.take j).map (·, k)).foldl (better s) bs) (l[j], k) := by
            rw [List.take_succ_eq_append_getElem hjl, List.map_append, List.foldl_append]; rfl
          have hx := hgxk l[j] (List.getElem_mem _)
          unfold maxLen at hx
          rw [← HB1.out] at hstep
          generalize l[j] = x at hcj hstep hx
          have HS := Lib.hid hstep; clear hstep
          by_cases h1 : b1.1.size < x.size
          · by_cases h2 : x.size ≤ s.size
            · by_cases h3 : s.extract 0 x.size = x
              · have h3b : ((s.extract 0 x.size).toList == x.toList) = true := by rw [h3]; simp
                have hN : better s b1 (x, k) = (x, (k : Int)) := by unfold better; rw [if_pos ⟨h1, (prefix_iff x s).2 ⟨h2, h3⟩⟩]
                have HN := Lib.hid hN; clear hN h3
                go_wp2
                go_round
                case rel => exact ⟨j + 1, (x, (k : Int)), by omega, by go_num, rfl, rfl, by rw [HS.out, HN.out]⟩
                case measure => simp [intOf]; omega
              · have h3b : ((s.extract 0 x.size).toList == x.toList) = false := by
                  rw [beq_eq_false_iff_ne]; intro h; exact h3 (bl_inj (by rw [bl, bl, ← ByteArray.toList_eq, ← ByteArray.toList_eq]; exact h))
                have hN : better s b1 (x, k) = b1 := by unfold better; rw [if_neg (fun h => h3 ((prefix_iff x s).1 h.2).2)]
                have HN := Lib.hid hN; clear hN h3
                go_wp2
                go_round
                case rel => exact ⟨j + 1, b1, by omega, by go_num, rfl, rfl, by rw [HS.out, HN.out]⟩
                case measure => simp [intOf]; omega
            · have hN : better s b1 (x, k) = b1 := by unfold better; rw [if_neg (fun h => h2 ((prefix_iff x s).1 h.2).1)]
              have HN := Lib.hid hN; clear hN
              go_wp2
              go_round
              case rel => exact ⟨j + 1, b1, by omega, by go_num, rfl, rfl, by rw [HS.out, HN.out]⟩
              case measure => simp [intOf]; omega
          · have hN : better s b1 (x, k) = b1 := by unfold better; rw [if_neg (fun h => h1 h.1)]
            have HN := Lib.hid hN; clear hN
            go_wp2
            go_round
            case rel => exact ⟨j + 1, b1, by omega, by go_num, rfl, rfl, by rw [HS.out, HN.out]⟩
            case measure => simp [intOf]; omega
        · obtain rfl : j = l.length := by omega
          rw [List.take_length] at HB1
          go_wp2
          go_round
          case rel => exact ⟨k + 1, b1, by omega, by go_num, rfl, rfl, by rw [HES.out, List.foldl_append, ← HBS.out]; exact HB1.out⟩
          case measure => simp [intOf]; omega
    · obtain rfl : k = gs.length := by omega
      rw [List.take_length] at HBS
      go_wp2
      go_ret2
      have : longest gs s = bs := HBS.out.symm
      rw [this]; exact ⟨rfl, rfl⟩

/-- An alphabet of a size that the statements speak of. -/
def SmallG (gs : List (List ByteArray)) : Prop := gs.length ≤ 20000 ∧ (∀ l ∈ gs, l.length ≤ 20000) ∧ ∀ l ∈ gs, ∀ x ∈ l, x.size ≤ 20000
theorem info_int : (Tryd.prog.info? 3).map (fun i => (i.zero, i.size, i.bytes)) = some (some (.int .i64 0), 1, 8) := by kernel_rfl
abbrev strs (l : List ByteArray) : List Value := l.map Value.string
abbrev ints (l : List Int) : List Value := l.map (Value.int .i64)
def ReadPost (w : World) (r : Int × List (ByteArray × Int)) (e : Ending) (w' : World) : Prop :=
  ∃ v1 v2, e = .returned (.tuple #[v1, v2, .int .i64 r.1]) ∧ w'.ownsRow w.heap.size 9 1 v1 r.2.length (strs (letS r.2)) ∧ w'.ownsRow w.heap.size 3 1 v2 r.2.length (ints (keyS r.2)) ∧ Below w.heap.size w w'

set_option maxRecDepth 20000 in
set_option maxHeartbeats 2000000 in
theorem refread_any (g : Nat) (gs : List (List ByteArray)) (s : ByteArray) (w : World) (h : RefAlph w g gs) (hG : SmallG gs) (hs : s.size ≤ maxLen) :
    Calls Tryd.prog 48 #[.pointer (some ⟨g, 0, none⟩), .string s] w (ReadPost w (readRes gs s)) := by
  obtain ⟨i0, hi, hz0, hz1, hz2⟩ := info_parts info_string
  obtain ⟨j0, hj, hy0, hy1, hy2⟩ := info_parts info_int
  have hmade := refmade_any g gs w h
  have hs' := hs
  unfold maxLen at hs
  by_cases hbig : 65536 < s.size
  · have hR : readRes gs s = (11, []) := by unfold readRes; rw [if_pos hbig]
    have HR := Lib.hid hR; clear hR
    go_enter Tryd.func48, Tryd.ntmps48
    go_wp2_with (go_at_call 59; refine hmade.mono ?_; rintro e w' ⟨rfl, rfl⟩)
    go_ret3
    rw [HR.out]
    exact ⟨_, _, rfl, World.ownsRow_nil _ _ _ _, World.ownsRow_nil _ _ _ _, Below.refl _ _⟩
  · have hR : readRes gs s = match parse gs s with | none => (10, []) | some es => (0, es) := by unfold readRes; rw [if_neg hbig]; cases parse gs s <;> rfl
    have HR := Lib.hid hR; clear hR
    go_enter Tryd.func48, Tryd.ntmps48
    go_wp2_with (go_at_call 59; refine hmade.mono ?_; rintro e w' ⟨rfl, rfl⟩)
    clear hmade
    go_loopw [7, 8, 9] (fun l q i wr => ∃ (k : Nat) (done : List (ByteArray × Int)), k ≤ s.size ∧ i = .int .i64 k ∧ done.length ≤ k ∧ wr.ownsRow w.heap.size 9 1 l done.length (strs (letS done)) ∧ wr.ownsRow w.heap.size 3 1 q done.length (ints (keyS done)) ∧
      parse gs s = (parse gs (dropB s k)).map (done ++ ·) ∧ Below w.heap.size w wr) (fun _ _ i _ => s.size - (intOf i).toNat)
    case atStart => exact ⟨0, [], by omega, rfl, by simp, World.ownsRow_nil _ _ _ _, World.ownsRow_nil _ _ _ _, by rw [dropB_zero]; simp, Below.refl _ _⟩
    case round =>
      obtain ⟨k, done, hk, rfl, hdk, ho1, ho2, hp, hb⟩ := hrel
      have HP := Lib.hid hp; clear hp
      by_cases hlt : k < s.size
      · have hlc := reflongest_any g gs (dropB s k) wr (h.below hb) (by have := hG.1; unfold maxLen; omega) (by rw [dropB_size]; unfold maxLen; omega) (fun l hl => by have := hG.2.1 l hl; unfold maxLen; omega) (fun l hl x hx => by have := hG.2.2 l hl x hx; unfold maxLen; omega)
        have hds : (dropB s k).size = s.size - k := dropB_size s k
        have hcons := parse_cons gs (s := dropB s k) (by omega)
        have hnone := parse_none gs (s := dropB s k) (by omega)
        have hpos := longest_pos (gs := gs) (s := dropB s k)
        rw [dropB_dropB] at hcons
        rw [hds] at hpos
        generalize longest gs (dropB s k) = b at hlc hcons hnone hpos
        have HC := Lib.hid hcons; have HN := Lib.hid hnone
        clear hcons hnone hds
        unfold dropB at hlc
        obtain ⟨x, pl⟩ := b
        simp only at hlc hpos
        by_cases hneg : pl < 0
        · have hE : readRes gs s = (10, []) := by rw [HR.out, HP.out, HN.out hneg]; rfl
          have HE := Lib.hid hE; clear hE hpos
          go_wp2_with (go_at_call 74; refine hlc.mono ?_; rintro e w' ⟨rfl, rfl⟩)
          go_ret3
          rw [HE.out]
          exact ⟨_, _, rfl, World.ownsRow_nil _ _ _ _, World.ownsRow_nil _ _ _ _, hb⟩
        · obtain ⟨hp1, hp2⟩ := hpos hneg
          have hstep : parse gs s = (parse gs (dropB s (k + x.size))).map ((done ++ [(x, pl)]) ++ ·) := by
            rw [HP.out, HC.out hneg, Option.map_map]; congr 1; funext l; simp
          have HS := Lib.hid hstep; clear hstep hpos
          have hM : done.length + 1 ≤ 65537 := by omega
          go_wp2_with (first
            | (go_at_call 74; refine hlc.mono ?_; rintro e w' ⟨rfl, rfl⟩)
            | (at_builtin; refine wpList_append_own _ rfl (.tmp 32) (.tmp 34) 22 rfl w.heap.size 9 i0 (.string ByteArray.empty) 1 16 Tryd.underlying22 hi hz0 hz1 hz2 rfl (by decide) _ _ _ rfl (ho1.alloc _) ⟨wr.heap.size, 0, none⟩ 1 1 [.string x] rfl rfl (cell_one_new _ _ _) (by simp [Value.oneCell']) (by unfold maxLen; omega) (by omega) (by have := hb.size; simp; omega) ?_; intro v1 w1 ho1' hg1 _; have ho2' := (ho2.alloc (.cells #[.string x] 9)).kept hg1 (own_own_ne ho2 ho1 (by decide)); have hb1 := (hb.alloc hb.size _).grown hg1 (by have := hb.size; simp; omega) (fun g hg => (ho1.lt g hg).1))
            | (at_builtin; refine wpList_append_own _ rfl (.tmp 36) (.tmp 38) 32 rfl w.heap.size 3 j0 (.int .i64 0) 1 8 Tryd.underlying32 hj hy0 hy1 hy2 rfl (by decide) _ _ _ rfl (ho2'.alloc _) ⟨w1.heap.size, 0, none⟩ 1 1 [.int .i64 pl] rfl rfl (cell_one_new _ _ _) (by simp [Value.oneCell']) (by unfold maxLen; omega) (by omega) (by have := hb1.size; simp; omega) ?_; intro v2 w2 ho2'' hg2 _))
          have ho1'' := (ho1'.alloc (.cells #[.int .i64 pl] 3)).kept hg2 (own_own_ne ho1' ho2' (by decide))
          have hb2 := (hb1.alloc hb1.size (.cells #[.int .i64 pl] 3)).grown hg2 (by have := hb1.size; simp; omega) (fun g hg => (ho2'.lt g hg).1)
          clear hg1 hg2 ho2' ho1' ho1 ho2
          go_roundw
          case rel => exact ⟨k + x.size, done ++ [(x, pl)], by omega, by go_num, by rw [List.length_append, List.length_singleton]; omega, by simpa [letS] using ho1'', by simpa [keyS] using ho2'', HS.out, hb2⟩
          case measure => simp [intOf]; omega
      · obtain rfl : k = s.size := by omega
        have hE : readRes gs s = (0, done) := by
          rw [HR.out, HP.out, parse_nil gs (by rw [dropB_size]; omega)]; simp
        have HE := Lib.hid hE; clear hE
        go_wp2
        go_ret3
        rw [HE.out]
        exact ⟨_, _, rfl, ho1, ho2, hb⟩
end Go.Proofs.YtcdpadggjkobjaaDoor
