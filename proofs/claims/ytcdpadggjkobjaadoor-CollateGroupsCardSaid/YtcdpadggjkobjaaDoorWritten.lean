/-
  layer 39: the statements' own 'written'. Conditions: an alphabet of New whose letters have at most 8 bytes, or none.
-/
import Derived.Test.YtcdpadggjkobjaaDoorMade
import Derived.Test.YtcdpadggjkobjaaDoorOpen
import Derived.Lib.OthersKept
namespace Go.Proofs.YtcdpadggjkobjaaDoor
open Go.RowKit Go.Lib Go.Shelf

theorem lays166 : Go.Proofs.Lays.n166 Tryd.prog Tryd.lays156_ren :=
  let L := Tryd.lays156
  { mixed := L.mixed, f166 := L.f166, f240 := L.f240, f276 := L.f276, t0 := L.t0, a0 := L.a0, z0 := L.z0, v0 := L.v0, t3 := L.t3, a3 := L.a3, z3 := L.z3, v3 := L.v3, t4 := L.t4, a4 := L.a4, z4 := L.z4, v4 := L.v4, t9 := L.t9, a9 := L.a9, z9 := L.z9, v9 := L.v9, t20 := L.t20, a20 := L.a20, z20 := L.z20, v20 := L.v20, t37 := L.t37, a37 := L.a37, z37 := L.z37, v37 := L.v37, t70 := L.t70, a70 := L.a70, z70 := L.z70, v70 := L.v70, t72 := L.t72, a72 := L.a72, z72 := L.z72, v72 := L.v72, t75 := L.t75, a75 := L.a75, z75 := L.z75, v75 := L.v75, t164 := L.t164, a164 := L.a164, z164 := L.z164, v164 := L.v164 }
theorem writeString_any (B b : Nat) (bs : List Value) (s : ByteArray) (w : World) (h : Lib.IsBuilderF 96 5 B b bs w) (hlen : bs.length + s.size ≤ 140737488355328) (hBw : B ≤ w.heap.size) :
    Calls Tryd.prog 60 #[.pointer (some ⟨b, 0, none⟩), .string s] w fun e w' => e = .returned (.tuple #[.int .i64 s.size, .nilIface]) ∧ (Lib.BuilderAtF 96 5 B b (.pointer (some ⟨b, 0, none⟩)) (bs ++ Lib.strCells s) w' ∧ Below B w w' ∧ Lib.OthersKept 5 (some b) w w') :=
  Any.Builder_WriteString_k lays166 Tryd.Builder_Extra_156 B b bs s w h hlen hBw
theorem own_others {w w' : World} {base : Nat} {e T e0 : TypeId} {n b : Nat} {v : Value} {xs : List Value} {cs : Array Value} {fz : Nat × Nat} (h : w.ownsRow base e 1 v n xs) (hb : w.heap[b]? = some (.cells cs T fz)) (hT : e ≠ T) (he : e ≠ e0) (ho : OthersKept e0 (some b) w w') : w'.ownsRow base e 1 v n xs := by
  obtain ⟨h1, h2 | ⟨g, cap, cur, h3, h4, h5, h6⟩⟩ := h
  · exact ⟨h1, .inl h2⟩
  · refine ⟨h1, .inr ⟨g, cap, cur, h3, h4, ho g _ h5 (fun e' => ?_) (fun c fz' e' => ?_), h6⟩⟩
    · have : g = b := Option.some.inj e'
      subst this; rw [hb] at h5; injection h5 with h5; injection h5 with _ h5; exact hT h5.symm
    · injection e' with _ e' ; exact he e'
def WrittenPost (w : World) (e : Ending) (w' : World) : Prop := ∃ s : ByteArray, e = .returned (.string s) ∧ s.size ≤ 480 ∧ Below w.heap.size w w'
theorem strCells_app (l : List UInt8) (s : ByteArray) : Lib.byteCells l ++ Lib.strCells s = Lib.byteCells (l ++ bl s) := by
  simp [Lib.byteCells, Lib.strCells, bl]
theorem builder_heap {T e : TypeId} {B b : Nat} {bs : List Value} {w : World} (h : IsBuilderF T e B b bs w) : ∃ cs, w.heap[b]? = some (.cells cs T (0, 0)) := by
  rcases h with ⟨_, v, h, _⟩ | ⟨_, v, h, _⟩
  · exact ⟨_, h⟩
  · exact ⟨_, h⟩

set_option maxRecDepth 20000 in
set_option maxHeartbeats 2000000 in
theorem written_any (p : Option Addr) (og : Option (List (List ByteArray))) (A : Option Addr) (n c : Nat) (xs : List UInt8) (w : World) (hA : AlphO w p og) (hfl : (flatO og).length ≤ 16384) (h8 : ∀ x ∈ flatO og, x.size ≤ 8) (hr : ReadB w w.heap.size A n xs) (hnc : n ≤ c) (_hc : c ≤ maxLen) :
    Calls Tryd.prog 33 #[.pointer p, .slice A n c] w (WrittenPost w) := by
  have hL := lettersO_any p og (w.alloc (.cells #[.pointer none, .slice none 0 0] 96)) (hA.below ((Below.refl _ _).alloc (Nat.le_refl _) _)) hfl
  have HL := Lib.hid hr.len
  have hc := _hc
  unfold maxLen at hc
  generalize flatO og = all at hL hfl h8
  have H8 := Lib.hid h8
  clear h8 hA
  obtain ⟨m, hmn, hm60, hmin⟩ : ∃ m : Nat, m ≤ n ∧ m ≤ 60 ∧ (min (n : Int) 60) = m := ⟨min n 60, by omega, by omega, by omega⟩
  have hmax : max (m : Int) 0 = m := by omega
  go_enter Tryd.func33, Tryd.ntmps33
  go_wp2_with fail
  refine hL.mono ?_
  rintro e w1 ⟨va, rfl, hal, hb1⟩
  obtain ⟨Aa, ca, rfl, hca1, hca2⟩ := ownsRow_form hal
  have hb0 : w1.heap[w.heap.size]? = some (.cells #[.pointer none, .slice none 0 0] 96 (0, 0)) := (hb1.block w.heap.size (by simp)).trans (heap_alloc_new w _)
  have hbw1 : Below w.heap.size w w1 := ((Below.refl _ w).alloc (Nat.le_refl _) _).trans (hb1.mono (by simp))
  have hB0 : IsBuilderF 96 5 w.heap.size w.heap.size [] w1 := .inl ⟨Nat.le_refl _, _, hb0, ⟨rfl, .inl ⟨rfl, rfl⟩⟩, by simp [Value.ownBlock]⟩
  have hal' := own_mono hal (show w.heap.size ≤ (w.alloc (.cells #[.pointer none, .slice none 0 0] 96)).heap.size by simp)
  clear hb0 hb1 hL hal
  go_wp2
  clear hmin hmax
  go_loopw [17] (fun i wr => ∃ (k : Nat) (l : List UInt8), k ≤ m ∧ i = .int .i64 k ∧ IsBuilderF 96 5 w.heap.size w.heap.size (Lib.byteCells l) wr ∧ l.length ≤ 8 * k ∧ wr.ownsRow w.heap.size 9 1 (.slice Aa all.length ca) all.length (strs all) ∧ Below w.heap.size w wr) (fun i _ => m - (intOf i).toNat)
  case atStart => exact ⟨0, [], by omega, rfl, hB0, Nat.zero_le _, hal', hbw1⟩
  case round =>
    obtain ⟨k, l, hk, rfl, hB, hl8, hown, hb⟩ := hrel
    by_cases hlt : k < m
    · have hkl : k < xs.length := by rw [HL.out]; omega
      obtain ⟨ad, rfl, had, hcx⟩ := ReadB.at_ (k := k) (Reads.below hr hb) hkl
      have hx255 := xs[k].toNat_lt
      generalize xs[k].toNat = x at hcx hx255
      by_cases hN : 0 < all.length
      · have hmod : ((x : Int) % (all.length : Int)) = ((x % all.length : Nat) : Int) := by omega
        have hj : x % all.length < all.length := Nat.mod_lt _ hN
        obtain ⟨ad2, rfl, had2, hcy⟩ := ReadS.at_ (k := x % all.length) (Reads.of_own hown) hj
        have hy8 := H8.out _ (List.getElem_mem hj)
        generalize all[x % all.length] = y at hcy hy8
        generalize x % all.length = j at hmod hj hcy
        generalize all.length = N at *
        have hN' := hown
        have hlen : (Lib.byteCells l).length = l.length := by simp [Lib.byteCells]
        have hws := writeString_any w.heap.size w.heap.size (Lib.byteCells l) y wr hB (by omega) hb.size
        have HLEN := Lib.hid hlen; clear hlen
        go_wp2_with fail
        refine hws.mono ?_
        rintro e w2 ⟨rfl, hB2, hb2, ho2⟩
        obtain ⟨cs, hcs⟩ := builder_heap hB
        have hown2 := own_others hN' hcs (by decide) (by decide) ho2
        rw [strCells_app] at hB2
        have hyl : (l ++ bl y).length ≤ 8 * (k + 1) := by rw [List.length_append, bl_len]; omega
        clear hws hcx hcy hown hN' hcs ho2
        go_wp2
        go_roundw
        case rel => exact ⟨k + 1, l ++ bl y, by omega, by go_num, .inr hB2, hyl, hown2, hb.trans hb2⟩
        case measure => simp [intOf]; omega
      · have h0 : all.length = 0 := by omega
        have hpos : ¬ (0 : Int) < (all.length : Int) := by omega
        have H0 := Lib.hid h0; clear h0
        generalize all.length = N at *
        go_wp2
        go_roundw
        case rel => exact ⟨k + 1, l, by omega, by go_num, hB, by omega, hown, hb⟩
        case measure => simp [intOf]; omega
    · obtain rfl : k = m := by omega
      have hst := Tryd.Builder_String_any_k w.heap.size w.heap.size l wr hB hb.size
      go_wp2_with fail
      refine hst.mono ?_
      rintro e w2 ⟨rfl, _, hb2, _⟩
      have hsz : (⟨l.toArray⟩ : ByteArray).size = l.length := rfl
      clear hst
      go_wp2
      go_ret
      exact ⟨_, rfl, by rw [hsz]; omega, hb.trans hb2⟩
end Go.Proofs.YtcdpadggjkobjaaDoor
