/-
  layer 39: the statements' own 'written'. Conditions: an alphabet of New whose letters have at most 8 bytes, or none.
-/
import Derived.Test.YtcdpadggjkobjaaGreatDoorMade
import Derived.Test.YtcdpadggjkobjaaGreatDoorOpen
import Derived.Lib.OthersKept
namespace Go.Proofs.YtcdpadggjkobjaaGreatDoor
open Go.RowKit Go.Lib Go.Shelf

def wrRen : Go.Shelf.Ren := ⟨fun | 166 => 22 | 240 => 43 | 276 => 68 | n => n, fun | 9 => 9 | 3 => 3 | 4 => 4 | 20 => 20 | 72 => 51 | 70 => 49 | 37 => 28 | 75 => 54 | 164 => 112 | 5 => 5 | 80 => 57 | n => n, fun n => n⟩
theorem lays166 : Go.Proofs.Lays.n166 Tryz.prog wrRen := {
  mixed := by kernel_rfl
  f166 := Tryz.func22.trans (congrArg some (by kernel_rfl))
  f240 := Tryz.func43.trans (congrArg some (by kernel_rfl))
  f276 := Tryz.func68.trans (congrArg some (by kernel_rfl))
  t0 := Tryz.underlying0
  a0 := Tryz.isAgg0
  z0 := Tryz.sizeOf0
  v0 := Tryz.zeroValue0
  t3 := Tryz.underlying3
  a3 := Tryz.isAgg3
  z3 := Tryz.sizeOf3
  v3 := Tryz.zeroValue3
  t4 := Tryz.underlying4
  a4 := Tryz.isAgg4
  z4 := Tryz.sizeOf4
  v4 := Tryz.zeroValue4
  t9 := Tryz.underlying9
  a9 := Tryz.isAgg9
  z9 := Tryz.sizeOf9
  v9 := Tryz.zeroValue9
  t20 := Tryz.underlying20
  a20 := Tryz.isAgg20
  z20 := Tryz.sizeOf20
  v20 := Tryz.zeroValue20
  t37 := Tryz.underlying28
  a37 := Tryz.isAgg28
  z37 := Tryz.sizeOf28
  v37 := Tryz.zeroValue28
  t70 := Tryz.underlying49
  a70 := Tryz.isAgg49
  z70 := Tryz.sizeOf49
  v70 := Tryz.zeroValue49
  t72 := Tryz.underlying51
  a72 := Tryz.isAgg51
  z72 := Tryz.sizeOf51
  v72 := Tryz.zeroValue51
  t75 := Tryz.underlying54
  a75 := Tryz.isAgg54
  z75 := Tryz.sizeOf54
  v75 := Tryz.zeroValue54
  t164 := Tryz.underlying112
  a164 := Tryz.isAgg112
  z164 := Tryz.sizeOf112
  v164 := Tryz.zeroValue112 }
theorem wrExtra : Builder.Extra Tryz.prog wrRen := {
  sizeBuilder := by kernel_rfl
  liesBuilder := by kernel_rfl
  t5 := Tryz.underlying5
  a5 := Tryz.isAgg5
  z5 := Tryz.sizeOf5
  v5 := Tryz.zeroValue5
  infoByte := by kernel_rfl
  cellsByte := by kernel_rfl
  sizeByte := by kernel_rfl
  neB5 := by decide }
theorem writeString_any (B b : Nat) (bs : List Value) (s : ByteArray) (w : World) (h : Lib.IsBuilderF 51 5 B b bs w) (hlen : bs.length + s.size ≤ 140737488355328) (hBw : B ≤ w.heap.size) :
    Calls Tryz.prog 22 #[.pointer (some ⟨b, 0, none⟩), .string s] w fun e w' => e = .returned (.tuple #[.int .i64 s.size, .nilIface]) ∧ (Lib.BuilderAtF 51 5 B b (.pointer (some ⟨b, 0, none⟩)) (bs ++ Lib.strCells s) w' ∧ Below B w w' ∧ Lib.OthersKept 5 (some b) w w') :=
  Any.Builder_WriteString_k lays166 wrExtra B b bs s w h hlen hBw
theorem own_others {w w' : World} {base : Nat} {e T e0 : TypeId} {n b : Nat} {v : Value} {xs : List Value} {cs : Array Value} {fz : Nat × Nat} (h : w.ownsRow base e 1 v n xs) (hb : w.heap[b]? = some (.cells cs T fz)) (hT : e ≠ T) (he : e ≠ e0) (ho : OthersKept e0 (some b) w w') : w'.ownsRow base e 1 v n xs := by
  obtain ⟨h1, h2 | ⟨g, cap, cur, h3, h4, h5, h6⟩⟩ := h
  · exact ⟨h1, .inl h2⟩
  · refine ⟨h1, .inr ⟨g, cap, cur, h3, h4, ho g _ h5 (fun e' => ?_) (fun c fz' e' => ?_), h6⟩⟩
    · have : g = b := Option.some.inj e'
      subst this; rw [hb] at h5; injection h5 with h5; injection h5 with _ h5; exact hT h5.symm
    · injection e' with _ e' ; exact he e'
def WrittenPost (w : World) (e : Ending) (w' : World) : Prop := ∃ s : ByteArray, e = .returned (.string s) ∧ s.size ≤ 480 ∧ Below w.heap.size w w'
theorem strCells_app (l : List UInt8) (s : ByteArray) : Lib.byteCells l ++ Lib.strCells s = Lib.byteCells (l ++ bl s) := by
  simp [Lib.byteCells, Lib.strCells, bl]
theorem builder_heap {T e : TypeId} {B b : Nat} {bs : List Value} {w : World} (h : IsBuilderF T e B b bs w) : ∃ cs, w.heap[b]? = some (.cells cs T (0, 0)) := by
  rcases h with ⟨_, v, h, _⟩ | ⟨_, v, h, _⟩
  · exact ⟨_, h⟩
  · exact ⟨_, h⟩

set_option maxRecDepth 20000 in
set_option maxHeartbeats 2000000 in
theorem written_any (p : Option Addr) (og : Option (List (List ByteArray))) (A : Option Addr) (n c : Nat) (xs : List UInt8) (w : World) (hA : AlphO w p og) (hfl : (flatO og).length ≤ 16384) (h8 : ∀ x ∈ flatO og, x.size ≤ 8) (hr : ReadB w w.heap.size A n xs) (hnc : n ≤ c) (_hc : c ≤ maxLen) :
    Calls Tryz.prog 7 #[.pointer p, .slice A n c] w (WrittenPost w) := by
  have hL := lettersO_any p og (w.alloc (.cells #[.pointer none, .slice none 0 0] 51)) (hA.below ((Below.refl _ _).alloc (Nat.le_refl _) _)) hfl
  have HL := Lib.hid hr.len
  have hc := _hc
  unfold maxLen at hc
  generalize flatO og = all at hL hfl h8
  have H8 := Lib.hid h8
  clear h8 hA
  obtain ⟨m, hmn, hm60, hmin⟩ : ∃ m : Nat, m ≤ n ∧ m ≤ 60 ∧ (min (n : Int) 60) = m := ⟨min n 60, by omega, by omega, by omega⟩
  have hmax : max (m : Int) 0 = m := by omega
  go_enter Tryz.func7, Tryz.ntmps7
  go_wp2_with fail
  refine hL.mono ?_
  rintro e w1 ⟨va, rfl, hal, hb1⟩
  obtain ⟨Aa, ca, rfl, hca1, hca2⟩ := ownsRow_form hal
  have hb0 : w1.heap[w.heap.size]? = some (.cells #[.pointer none, .slice none 0 0] 51 (0, 0)) := (hb1.block w.heap.size (by simp)).trans (heap_alloc_new w _)
  have hbw1 : Below w.heap.size w w1 := ((Below.refl _ w).alloc (Nat.le_refl _) _).trans (hb1.mono (by simp))
  have hB0 : IsBuilderF 51 5 w.heap.size w.heap.size [] w1 := .inl ⟨Nat.le_refl _, _, hb0, ⟨rfl, .inl ⟨rfl, rfl⟩⟩, by simp [Value.ownBlock]⟩
  have hal' := own_mono hal (show w.heap.size ≤ (w.alloc (.cells #[.pointer none, .slice none 0 0] 51)).heap.size by simp)
  clear hb0 hb1 hL hal
  go_wp2
  clear hmin hmax
  go_loopw [17] (fun i wr => ∃ (k : Nat) (l : List UInt8), k ≤ m ∧ i = .int .i64 k ∧ IsBuilderF 51 5 w.heap.size w.heap.size (Lib.byteCells l) wr ∧ l.length ≤ 8 * k ∧ wr.ownsRow w.heap.size 9 1 (.slice Aa all.length ca) all.length (strs all) ∧ Below w.heap.size w wr) (fun i _ => m - (intOf i).toNat)
  case atStart => exact ⟨0, [], by omega, rfl, hB0, Nat.zero_le _, hal', hbw1⟩
  case round =>
    obtain ⟨k, l, hk, rfl, hB, hl8, hown, hb⟩ := hrel
    by_cases hlt : k < m
    · have hkl : k < xs.length := by rw [HL.out]; omega
      obtain ⟨ad, rfl, had, hcx⟩ := ReadB.at_ (k := k) (Reads.below hr hb) hkl
      have hx255 := xs[k].toNat_lt
      generalize xs[k].toNat = x at hcx hx255
      by_cases hN : 0 < all.length
      · have hmod : ((x : Int) % (all.length : Int)) = ((x % all.length : Nat) : Int) := by omega
        have hj : x % all.length < all.length := Nat.mod_lt _ hN
        obtain ⟨ad2, rfl, had2, hcy⟩ := ReadS.at_ (k := x % all.length) (Reads.of_own hown) hj
        have hy8 := H8.out _ (List.getElem_mem hj)
        generalize all[x % all.length] = y at hcy hy8
        generalize x % all.length = j at hmod hj hcy
        generalize all.length = N at *
        have hN' := hown
        have hlen : (Lib.byteCells l).length = l.length := by simp [Lib.byteCells]
        have hws := writeString_any w.heap.size w.heap.size (Lib.byteCells l) y wr hB (by omega) hb.size
        have HLEN := Lib.hid hlen; clear hlen
        go_wp2_with fail
        refine hws.mono ?_
        rintro e w2 ⟨rfl, hB2, hb2, ho2⟩
        obtain ⟨cs, hcs⟩ := builder_heap hB
        have hown2 := own_others hN' hcs (by decide) (by decide) ho2
        rw [strCells_app] at hB2
        have hyl : (l ++ bl y).length ≤ 8 * (k + 1) := by rw [List.length_append, bl_len]; omega
        clear hws hcx hcy hown hN' hcs ho2
        go_wp2
        go_roundw
        case rel => exact ⟨k + 1, l ++ bl y, by omega, by go_num, .inr hB2, hyl, hown2, hb.trans hb2⟩
        case measure => simp [intOf]; omega
      · have h0 : all.length = 0 := by omega
        have hpos : ¬ (0 : Int) < (all.length : Int) := by omega
        have H0 := Lib.hid h0; clear h0
        generalize all.length = N at *
        go_wp2
        go_roundw
        case rel => exact ⟨k + 1, l, by omega, by go_num, hB, by omega, hown, hb⟩
        case measure => simp [intOf]; omega
    · obtain rfl : k = m := by omega
      have hst := Tryz.Builder_String_any_k w.heap.size w.heap.size l wr hB hb.size
      go_wp2_with fail
      refine hst.mono ?_
      rintro e w2 ⟨rfl, _, hb2, _⟩
      have hsz : (⟨l.toArray⟩ : ByteArray).size = l.length := rfl
      clear hst
      go_wp2
      go_ret
      exact ⟨_, rfl, by rw [hsz]; omega, hb.trans hb2⟩
end Go.Proofs.YtcdpadggjkobjaaGreatDoor
