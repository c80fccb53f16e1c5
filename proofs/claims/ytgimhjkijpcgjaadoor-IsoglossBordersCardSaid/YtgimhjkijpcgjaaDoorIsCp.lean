/-
  layer 37: light, copied. Conditions: lists that are read.
-/
import Derived.Test.YtgimhjkijpcgjaaDoorIsLa
namespace Go.Proofs.YtgimhjkijpcgjaaDoor
open Go.RowKit Go.Lib

def LightPost (w : World) (m : Nat) (l : List (List Int)) (e : Ending) (w' : World) : Prop := ∃ b : Bool, e = .returned (.bool b) ∧ (b = true → m ≤ 300 ∧ ∀ vs ∈ l, vs.length ≤ 40) ∧ Below w.heap.size w w'
set_option maxRecDepth 20000 in
set_option maxHeartbeats 4000000 in
theorem light37_any (A : Option Addr) (m c : Nat) (l : List (List Int)) (w : World) (h : ReadII w w.heap.size A m l) (hm : m ≤ maxLen) :
    Calls Tryd.prog 22 #[.slice A m c] w (LightPost w m l) := by
  have hml := h.1
  unfold maxLen at hm
  have H := Lib.hid h; have HML := Lib.hid hml
  clear h hml
  go_enter Tryd.func22, Tryd.ntmps22
  go_wp2
  go_loopw [3] (fun i wr => ∃ j : Nat, j ≤ m ∧ i = .int .i64 j ∧ (∀ k (hk : k < l.length), k < j → l[k].length ≤ 40) ∧ Below w.heap.size w wr) (fun i _ => m - (intOf i).toNat)
  case atStart => exact ⟨0, by omega, rfl, fun _ _ h => absurd h (by omega), Below.refl _ _⟩
  case round =>
    obtain ⟨j, hj, rfl, hall, hb⟩ := hrel
    have HB := Lib.hid hb; have HALL := Lib.hid hall
    clear hb hall
    by_cases hlt : j < m
    · have hjl : j < l.length := by rw [HML.out]; exact hlt
      obtain ⟨ad, A', c', rfl, hcell, hlt2, hR, hc1, hc2⟩ := H.out.2 j hjl
      have hcw := (HB.out.cell hlt2).trans hcell
      have hltI : (j : Int) < (m : Int) := by omega
      have HJ : Hid (∀ q, l[j].length = q → q ≤ 40 → ∀ k (hk : k < l.length), k < j + 1 → l[k].length ≤ 40) := Lib.hid (fun q hq hq2 k hk hk2 => by
        rcases Nat.lt_or_ge k j with h1 | h1
        · exact HALL.out k hk h1
        · obtain rfl : k = j := by omega
          omega)
      obtain ⟨q, hq⟩ : ∃ q, l[j].length = q := ⟨_, rfl⟩
      rw [hq] at hcw
      have HQ := Lib.hid hq
      clear hR hcell hc1 hq
      by_cases h40 : (40 : Int) < (q : Int)
      · go_wp2
        go_ret
        exact ⟨false, rfl, (fun h => by cases h), HB.out⟩
      · go_wp2
        go_roundw
        case rel => exact ⟨j + 1, by omega, by go_num, HJ.out q HQ.out (by omega), HB.out⟩
        case measure => simp [intOf]; omega
    · obtain rfl : j = m := by omega
      have HF : Hid (∀ vs ∈ l, vs.length ≤ 40) := Lib.hid (fun vs hv => by
        obtain ⟨k, hk, rfl⟩ := List.getElem_of_mem hv
        exact HALL.out k hk (by have := HML.out; omega))
      by_cases h1 : (j : Int) ≤ 12
      · go_wp2
        go_ret
        exact ⟨true, rfl, (fun _ => ⟨by omega, HF.out⟩), HB.out⟩
      · by_cases h2 : (256 : Int) < (j : Int)
        · by_cases h3 : (j : Int) ≤ 300
          · go_wp2
            go_ret
            exact ⟨true, rfl, (fun _ => ⟨by omega, HF.out⟩), HB.out⟩
          · go_wp2
            go_ret
            exact ⟨false, rfl, (fun h => by cases h), HB.out⟩
        · go_wp2
          go_ret
          exact ⟨false, rfl, (fun h => by cases h), HB.out⟩
/-- Rows of ints of one's own. -/
def CpI (wr : World) (base : Nat) (l : List (List Int)) (zs : List SlI) : Prop := ∀ j (_ : j < zs.length), ∃ _ : j < l.length, wr.ownsRow base 3 1 (encSl zs[j]) l[j].length (l[j].map (Value.int .i64))
theorem CpI.kept {wr w' : World} {base : Nat} {l : List (List Int)} {zs : List SlI} {b' n' s' : Nat} {v : Value} {xs : List Value} (h : CpI wr base l zs) (ho : wr.ownsRow b' 26 s' v n' xs) (hg : wr.grownBy w' v.ownBlock) : CpI w' base l zs := fun j hj => by
  obtain ⟨h1, h2⟩ := h j hj
  exact ⟨h1, h2.kept hg (own_own_ne h2 ho (by decide))⟩
theorem CpI.below {wr w' : World} {base : Nat} {l : List (List Int)} {zs : List SlI} (h : CpI wr base l zs) (hb : Below wr.heap.size wr w') : CpI w' base l zs := fun j hj => by
  obtain ⟨h1, h2⟩ := h j hj
  exact ⟨h1, own_below h2 hb⟩
theorem CpI.snoc {wr : World} {base : Nat} {l : List (List Int)} {zs : List SlI} {k : Nat} (h : CpI wr base l zs) (hk : k < l.length) (hz : zs.length = k) {s : SlI} (hs : wr.ownsRow base 3 1 (encSl s) l[k].length (l[k].map (Value.int .i64))) : CpI wr base l (zs ++ [s]) := fun j hj => by
  rw [List.length_append] at hj
  simp at hj
  rcases Nat.lt_or_ge j zs.length with h1 | h1
  · obtain ⟨h2, h3⟩ := h j h1
    exact ⟨h2, by rw [List.getElem_append_left h1]; exact h3⟩
  · obtain rfl : j = k := by omega
    exact ⟨hk, by rw [List.getElem_append_right h1]; simpa [hz] using hs⟩
theorem CpI.reads {wr : World} {base m c : Nat} {A : Option Addr} {l : List (List Int)} {zs : List SlI} (h : CpI wr base l zs) (hz : zs.length = m) (hm : l.length = m) (ho : wr.ownsRow base 26 1 (.slice A m c) m (zs.map encSl)) : ReadII wr wr.heap.size A m l ∧ PlainA A := by
  rcases Nat.eq_zero_or_pos m with h0 | h0
  · subst h0
    refine ⟨⟨hm, fun k hk => absurd hk (by omega)⟩, ?_⟩
    rcases ho.2 with hn | ⟨g, cap, cur, hv, _⟩
    · obtain ⟨hv, _⟩ := hn
      injection hv with e; subst e
      exact plainA_none
    · injection hv with e; subst e
      exact plainA_at g
  · obtain ⟨g, cap, hv, _, hlt⟩ := ho.form h0
    injection hv with e
    subst e
    refine ⟨⟨hm, fun k hk => ?_⟩, plainA_at g⟩
    obtain ⟨_, h2⟩ := h k (by omega)
    obtain ⟨A', c', e, h3, h4⟩ := ownsRow_form h2
    have hc := ho.cellAt k (by omega)
    rw [List.getElem?_map, List.getElem?_eq_getElem (by omega)] at hc
    have hc' : wr.cell? ⟨g, k, none⟩ = some (.slice A' l[k].length c') := by rw [← e]; exact hc
    rw [e] at h2
    exact ⟨_, A', c', rfl, by rw [add_at]; exact hc', by rw [add_at]; exact hlt, Reads.of_own h2, h3, h4⟩
set_option maxRecDepth 20000 in
set_option maxHeartbeats 4000000 in
theorem copied37_any (A : Option Addr) (m c : Nat) (l : List (List Int)) (w : World) (h : ReadII w w.heap.size A m l) (hm : m ≤ 300) (h40 : ∀ vs ∈ l, vs.length ≤ 40) :
    Calls Tryd.prog 23 #[.slice A m c] w fun e w' => ∃ A' c', e = .returned (.slice A' m c') ∧ ReadII w' w'.heap.size A' m l ∧ PlainA A' ∧ m ≤ c' ∧ c' ≤ maxLen ∧ Below w.heap.size w w' := by
  obtain ⟨i0, hi, hz0, hz1, hz2⟩ := info_parts (show (Tryd.prog.info? 3).map (fun i => (i.zero, i.size, i.bytes)) = some (some (.int .i64 0), 1, 8) by kernel_rfl)
  obtain ⟨i1, ki, kz0, kz1, kz2⟩ := info_parts (show (Tryd.prog.info? 26).map (fun i => (i.zero, i.size, i.bytes)) = some (some (.slice none 0 0), 1, 24) by kernel_rfl)
  have hml := h.1
  have H := Lib.hid h; have HML := Lib.hid hml; have H40 := Lib.hid h40
  clear h hml h40
  go_enter Tryd.func23, Tryd.ntmps23
  go_wp2
  go_loopw [3, 4] (fun v i wr => ∃ (j : Nat) (zs : List SlI), j ≤ m ∧ i = .int .i64 j ∧ zs.length = j ∧ wr.ownsRow w.heap.size 26 1 v j (zs.map encSl) ∧ CpI wr w.heap.size l zs ∧ Below w.heap.size w wr) (fun _ i _ => m - (intOf i).toNat)
  case atStart => exact ⟨0, [], by omega, rfl, rfl, World.ownsRow_nil _ _ _ _, (fun j hj => absurd hj (by simp)), Below.refl _ _⟩
  case round =>
    obtain ⟨j, zs, hj, rfl, hzl, hown, hcp, hb⟩ := hrel
    have HB := Lib.hid hb; have HO := Lib.hid hown; have HCP := Lib.hid hcp; have HZL := Lib.hid hzl
    clear hb hown hcp hzl
    by_cases hlt : j < m
    · have hjl : j < l.length := by rw [HML.out]; exact hlt
      have hl40 := H40.out _ (List.getElem_mem hjl)
      obtain ⟨ad, A1, c1, rfl, hcell, hlt2, hR, hc1, hc2⟩ := H.out.2 j hjl
      have hsn := fun (w5 : World) (s : SlI) (hh : CpI w5 w.heap.size l zs) => CpI.snoc (k := j) hh hjl HZL.out (s := s)
      obtain ⟨x, hx⟩ : ∃ x, l[j] = x := ⟨_, rfl⟩
      rw [hx] at hcell hR hl40
      simp only [hx] at hsn
      have HSN := Lib.hid hsn
      have hal : Below wr.heap.size wr (wr.alloc (.cells #[] 3)) := (Below.refl _ wr).alloc (Nat.le_refl _) _
      have HAL := Lib.hid hal
      have hcw := ((HB.out.trans (hal.mono HB.out.size)).cell hlt2).trans hcell
      have HRX := Lib.hid (ReadI.later hR (HB.out.trans (hal.mono HB.out.size)))
      have hltI : (j : Int) < (m : Int) := by omega
      have hxl : x.length ≤ 40 := hl40
      obtain ⟨q, hq⟩ : ∃ q, x.length = q := ⟨_, rfl⟩
      have HQ := Lib.hid hq
      rw [hq] at hcw hl40
      have HRX' : Hid (ReadI (wr.alloc (.cells #[] 3)) (wr.alloc (.cells #[] 3)).heap.size A1 q x) := Lib.hid (hq ▸ HRX.out)
      have hszw := HB.out.size
      clear hsn hx hal hR hcell hc1 hq hxl HRX
      go_wp2_with (first
        | (at_builtin; refine wpList_append_any _ rfl _ _ 26 rfl wr.heap.size 3 i0 (.int .i64 0) 1 8 Tryd.underlying26 hi hz0 hz1 hz2 rfl (by decide) _ _ _ rfl (own_empty1 wr _) _ _ _ _ (x.map (Value.int .i64)) rfl HRX'.out (by simp [Value.oneCell']) (by unfold maxLen; omega) (by omega) (by simp) ?_; intro v1 w2 hown1 hgrow1 hx1; clear hx1; have hb2 : Below wr.heap.size wr w2 := HAL.out.grown hgrow1 (by simp) (fun g hg => ((own_empty1 wr 3).lt g hg).1); rw [Nat.zero_add] at hown1; obtain ⟨A2, c2, rfl, h2a, h2b⟩ := ownsRow_form hown1; have HO1 := Lib.hid hown1; have HB2 := Lib.hid hb2; have hsz2 := hb2.size; have HO2 := Lib.hid (own_below (own_below HO.out hb2) ((Below.refl _ w2).alloc (Nat.le_refl _) (.cells #[.slice A2 q c2] 26))); have HRN := Lib.hid (reads_new w2 26 [.slice A2 q c2]); clear hown1 hgrow1 hb2)
        | (at_builtin; refine wpList_append_any _ rfl _ _ 43 rfl w.heap.size 26 i1 (.slice none 0 0) 1 24 Tryd.underlying43 ki kz0 kz1 kz2 rfl (by decide) _ _ _ rfl HO2.out _ _ _ _ [.slice A2 q c2] rfl HRN.out (by simp [Value.oneCell']) (by unfold maxLen; omega) (by omega) (by simp; omega) ?_; intro v2 w4 hown2 hgrow2 hx2; clear hx2))
      have hb4 : Below w.heap.size w w4 := ((HB.out.trans (HB2.out.mono hszw)).alloc (Nat.le_trans hszw hsz2) _).grown hgrow2 (by simp; omega) (fun g hg => (HO2.out.lt g hg).1)
      have ha3 : Below w2.heap.size w2 (w2.alloc (.cells #[.slice A2 q c2] 26)) := (Below.refl _ w2).alloc (Nat.le_refl _) _
      have hcp4 := ((HCP.out.below HB2.out).below ha3).kept HO2.out hgrow2
      have hin : w4.ownsRow w.heap.size 3 1 (encSl (A2, q, c2)) x.length (x.map (Value.int .i64)) := by
        rw [HQ.out]
        have h1 := own_below (own_mono HO1.out hszw) ha3
        exact h1.kept hgrow2 (own_own_ne h1 HO2.out (by decide))
      have hcp5 := HSN.out w4 (A2, q, c2) hcp4 hin
      have HCP5 := Lib.hid hcp5
      clear hgrow2 hcp4 hcp5 hin ha3
      go_roundw
      case rel => exact ⟨j + 1, zs ++ [(A2, q, c2)], by omega, by go_num, by rw [List.length_append, HZL.out]; rfl, by rw [List.map_append]; exact hown2, HCP5.out, hb4⟩
      case measure => simp [intOf]; omega
    · obtain rfl : j = m := by omega
      obtain ⟨A', c', rfl, h1, h2⟩ := ownsRow_form HO.out
      go_wp2
      go_ret
      obtain ⟨h3, h4⟩ := HCP.out.reads HZL.out HML.out HO.out
      exact ⟨A', c', rfl, h3, h4, h1, h2, HB.out⟩
end Go.Proofs.YtgimhjkijpcgjaaDoor
