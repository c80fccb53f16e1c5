/-
  layer 36: Middle of the program. Conditions: nil, or a map that New made (or the zero one).
-/
import Derived.Test.YtdelkgfodeilkaaDoorPtD
import Derived.Test.YtdelkgfodeilkaaDoorShelf
namespace Go.Proofs.YtdelkgfodeilkaaDoor
open Go.RowKit Go.Lib

noncomputable def midO : Option Pts → Int × Bool
  | none => (0, false)
  | some M => midS M
noncomputable def midF : Option Pts → Nat → Int × Int
  | none => fun _ => (-1, 0)
  | some M => midK M
theorem foldl_max_le (l : List Int) : ∀ a, a ≤ l.foldl max a := by
  induction l with
  | nil => intro a; exact Int.le_refl _
  | cons x l ih => intro a; exact Int.le_trans (by show a ≤ max a x; omega) (ih (max a x))
theorem maxOf_low (x : Int) (l : List Int) (h : -1 ≤ x) : Lib.maxOf (x :: l) = (x :: l).foldl max (-1) := by
  show (x :: l).foldl max x = _
  rw [List.foldl_cons, List.foldl_cons]
  congr 1
  omega
theorem minOf_neg (l : List Int) (hl : l ≠ []) : Lib.minOf l < 0 ↔ ∃ x ∈ l, x < 0 := by
  cases l with
  | nil => exact absurd rfl hl
  | cons x l =>
    have key : ∀ (l : List Int) (a : Int), l.foldl min a < 0 ↔ a < 0 ∨ ∃ x ∈ l, x < 0 := by
      intro l
      induction l with
      | nil => intro a; simp
      | cons y l ih =>
        intro a
        rw [List.foldl_cons, ih]
        simp only [List.mem_cons, exists_eq_or_imp]
        constructor
        · rintro (h | h)
          · by_cases h1 : a < 0
            · exact .inl h1
            · exact .inr (.inl (by omega))
          · exact .inr (.inr h)
        · rintro (h | h | h)
          · exact .inl (by omega)
          · exact .inl (by omega)
          · exact .inr h
    show (x :: l).foldl min x < 0 ↔ _
    rw [key]
    simp
theorem ecc_eq {M : Pts} (hM : GoodM M) (a : Nat) (h0 : 0 < M.names.length) : Lib.maxOf ((List.range M.names.length).map (distM M a)) = eccM M a := by
  obtain ⟨k, hk⟩ : ∃ k, M.names.length = k + 1 := ⟨M.names.length - 1, by omega⟩
  show _ = ((List.range M.names.length).map (distM M a)).foldl max (-1)
  rw [hk, List.range_succ_eq_map, List.map_cons]
  exact maxOf_low _ _ (hM.low a 0)
theorem ecc_low (M : Pts) (a : Nat) : -1 ≤ eccM M a := foldl_max_le _ _
theorem row_min {M : Pts} (a : Nat) (h0 : 0 < M.names.length) : Lib.minOf ((List.range M.names.length).map (distM M a)) < 0 ↔ ∃ b, b < M.names.length ∧ distM M a b < 0 := by
  rw [minOf_neg _ (by intro e; have := congrArg List.length e; simp only [List.length_map, List.length_range, List.length_nil] at this; omega)]
  constructor
  · rintro ⟨x, hx, h⟩
    obtain ⟨b, hb, rfl⟩ := List.mem_map.1 hx
    exact ⟨b, List.mem_range.1 hb, h⟩
  · rintro ⟨b, hb, h⟩
    exact ⟨_, List.mem_map.2 ⟨b, List.mem_range.2 hb, rfl⟩, h⟩
set_option maxRecDepth 20000 in
set_option maxHeartbeats 4000000 in
theorem middleP_any (p : Option Addr) (om : Option Pts) (w : World) (h : MapO w p om) (hG : GoodO om) :
    Calls Tryd.prog 35 #[.pointer p] w fun e w' => e = .returned (.tuple #[.int .i64 (midO om).1, .bool (midO om).2]) ∧ Below w.heap.size w w' := by
  have hlen := lenP_any p om w h
  have hone : ∀ i, i < lenO om → ∃ g M, p = some ⟨g, 0, none⟩ ∧ om = some M ∧ MapAt w g M ∧ GoodM M ∧ M.names.length = lenO om ∧ midF om = midK M := by
    intro i hi
    obtain ⟨g, M, k, h1, h2, h3, h4, _⟩ := inO_open h hG (a := (i : Int)) ⟨by omega, by omega⟩
    exact ⟨g, M, h1, h2, h3, h4, by rw [h2]; rfl, by rw [h2]; rfl⟩
  have hfew : lenO om ≤ 128 := by
    cases om with
    | none => exact Nat.zero_le _
    | some M => exact (hG M rfl).few
  have h0 : midF om 0 = (-1, 0) := by cases om <;> rfl
  have hend : ∀ M, om = some M → (∀ a b, a < lenO om → b < lenO om → 0 ≤ distM M a b) → 0 < lenO om → midO om = ((midF om (lenO om)).1, true) ∧ 0 ≤ (midF om (lenO om)).1 := by
    rintro M rfl hall hpos
    refine ⟨?_, (midK_pos M M.names.length hpos).1⟩
    show midS M = _
    unfold midS
    rw [if_pos ⟨hall, hpos⟩]; rfl
  have hbad : ∀ M a b, om = some M → a < lenO om → b < lenO om → distM M a b < 0 → midO om = (0, false) := by
    rintro M a b rfl ha hb hd
    show midS M = _
    unfold midS
    rw [if_neg (fun hx => by have := hx.1 a b ha hb; omega)]
  have hnil : lenO om = 0 → midO om = (0, false) := by
    intro hl
    cases om with
    | none => rfl
    | some M =>
      show midS M = _
      unfold midS
      rw [if_neg (fun hx => by have h1 := hx.2; have : M.names.length = 0 := hl; have : M.n = 0 := this; omega)]
  obtain ⟨res, hres⟩ : ∃ res, midO om = res := ⟨_, rfl⟩
  rw [hres] at hend hbad hnil ⊢
  have HONE := Lib.hid hone; have H0 := Lib.hid h0; have HEND := Lib.hid hend; have HBAD := Lib.hid hbad; have HNIL := Lib.hid hnil
  clear h hG hone h0 hend hbad hnil hres
  generalize midF om = mf at *
  generalize lenO om = N at *
  go_enter Tryd.func35, Tryd.ntmps35
  go_wp2_with fail
  refine hlen.mono ?_
  rintro e w' ⟨rfl, rfl⟩
  go_wp2
  go_loopw [4, 5, 11] (fun b f i wr => ∃ k : Nat, k ≤ N ∧ i = .int .i64 k ∧ b = .int .i64 (mf k).1 ∧ f = .int .i64 (mf k).2 ∧ Below w.heap.size w wr ∧ (∀ M, om = some M → ∀ a b, a < k → b < N → 0 ≤ distM M a b)) (fun _ _ i _ => N - (intOf i).toNat)
  case atStart => exact ⟨0, by omega, rfl, by rw [H0.out], by rw [H0.out], Below.refl _ _, fun M _ a b h => by omega⟩
  case round =>
    obtain ⟨k, hk, rfl, rfl, rfl, hb, hall⟩ := hrel
    have HALL := Lib.hid hall
    clear hall
    by_cases hlt : k < N
    · obtain ⟨g, M, rfl, homM, hM, hGM, hMN, hmf⟩ := HONE.out k hlt
      have hf := from_any g M k wr (hM.below (hb.mono (Nat.le_refl _))) hGM (by rw [hMN]; exact hlt)
      unfold RowPost at hf
      have hmin := row_min (M := M) k (by omega)
      have hecc := ecc_eq hGM k (by omega)
      have hlow := ecc_low M k
      have hst : mf (k + 1) = if (mf k).1 < 0 ∨ eccM M k < (mf k).2 then ((k : Int), eccM M k) else mf k := by rw [hmf]; rfl
      rw [hMN] at hf hmin hecc
      obtain ⟨zs, hzs⟩ : ∃ zs, (List.range N).map (distM M k) = zs := ⟨_, rfl⟩
      have hzl : zs.length = N := by rw [← hzs]; simp
      have hzg : ∀ j, j < N → zs.getD j 0 = distM M k j := fun j hj => by rw [← hzs, List.getD_eq_getElem?_getD, List.getElem?_map, List.getElem?_range hj]; rfl
      rw [hzs] at hmin hecc
      have HMIN := Lib.hid hmin; have HST := Lib.hid hst; have HZG := Lib.hid hzg; have HZL := Lib.hid hzl; have HOM := Lib.hid homM
      clear hmin hst hzg hzl hzs homM hM hGM hMN hmf
      go_wp2_with fail
      refine hf.mono ?_
      rintro e w1 ⟨q, rfl, hq, hrow, hb1⟩
      have hcs : ∀ j, j < zs.length → w1.cell? ⟨q, 0 + j, none⟩ = some (.int .i64 (zs.getD j 0)) := fun j hj => by
        rw [HZL.out] at hj
        rw [Nat.zero_add, HZG.out j hj]; exact row_cell hrow hj
      have c1 := Tryd.slices_Min_int q 0 N N zs w1 (by omega) (by rw [HZL.out]; exact Nat.le_refl _) (by omega) hcs
      have c2 := Tryd.slices_Max_int q 0 N N zs w1 (by omega) (by rw [HZL.out]; exact Nat.le_refl _) (by omega) hcs
      rw [List.take_of_length_le (by rw [HZL.out]; exact Nat.le_refl _)] at c1 c2
      rw [hecc] at c2
      have HB := Lib.hid (hb.trans (hb1.mono hb.size))
      clear hcs hrow hf hecc
      generalize Lib.minOf zs = mn at *
      generalize eccM M k = mx at *
      by_cases hneg : mn < 0
      · go_wp2_with fail
        refine c1.mono ?_
        rintro e w2 ⟨rfl, rfl⟩
        go_wp2
        go_ret2
        obtain ⟨j, hj, hd⟩ := HMIN.out.1 hneg
        rw [HBAD.out M k j HOM.out hlt hj hd]
        exact ⟨rfl, HB.out⟩
      · have hrn : ∀ M', om = some M' → ∀ a b, a < k + 1 → b < N → 0 ≤ distM M' a b := by
          intro M' hM' a b ha hb'
          rcases Nat.lt_or_ge a k with h1 | h1
          · exact HALL.out M' hM' a b h1 hb'
          · obtain rfl : a = k := by omega
            obtain rfl : M' = M := Option.some.inj (hM'.symm.trans HOM.out)
            by_cases hd : 0 ≤ distM M' a b
            · exact hd
            · exact absurd (HMIN.out.2 ⟨b, hb', by omega⟩) hneg
        have HRN := Lib.hid hrn
        clear hrn
        by_cases hbest : (mf k).1 < 0
        · have hs1 : mf (k + 1) = ((k : Int), mx) := by rw [HST.out, if_pos (.inl hbest)]
          have HS1 := Lib.hid hs1
          clear hs1
          generalize (mf k).1 = m1 at *
          generalize (mf k).2 = m2 at *
          go_wp2_with fail
          refine c1.mono ?_
          rintro e w2 ⟨rfl, rfl⟩
          go_wp2_with fail
          refine c2.mono ?_
          rintro e w2 ⟨rfl, rfl⟩
          go_wp2
          go_roundw
          case rel => exact ⟨k + 1, by omega, by go_num, by rw [HS1.out], by rw [HS1.out], HB.out, HRN.out⟩
          case measure => simp [intOf]; omega
        · by_cases hcl : mx < (mf k).2
          · have hs1 : mf (k + 1) = ((k : Int), mx) := by rw [HST.out, if_pos (.inr hcl)]
            have HS1 := Lib.hid hs1
            clear hs1
            have hbd : decide ((mf k).1 < 0) = false := decide_eq_false hbest
            generalize (mf k).1 = m1 at *
            generalize (mf k).2 = m2 at *
            go_wp2_with fail
            refine c1.mono ?_
            rintro e w2 ⟨rfl, rfl⟩
            go_wp2_with fail
            refine c2.mono ?_
            rintro e w2 ⟨rfl, rfl⟩
            go_wp2
            go_roundw
            case rel => exact ⟨k + 1, by omega, by go_num, by rw [HS1.out], by rw [HS1.out], HB.out, HRN.out⟩
            case measure => simp [intOf]; omega
          · have hs1 : mf (k + 1) = mf k := by rw [HST.out, if_neg (by omega)]
            have HS1 := Lib.hid hs1
            clear hs1
            have hbd : decide ((mf k).1 < 0) = false := decide_eq_false hbest
            go_wp2_with fail
            refine c1.mono ?_
            rintro e w2 ⟨rfl, rfl⟩
            go_wp2_with fail
            refine c2.mono ?_
            rintro e w2 ⟨rfl, rfl⟩
            go_wp2
            go_roundw
            case rel => exact ⟨k + 1, by omega, by go_num, by rw [HS1.out], by rw [HS1.out], HB.out, HRN.out⟩
            case measure => simp [intOf]; omega
    · obtain rfl : k = N := by omega
      rcases Nat.eq_zero_or_pos k with hz | hz
      · subst hz
        have hmf0 := H0.out
        rw [hmf0]
        go_wp2
        go_ret2
        rw [HNIL.out trivial]
        exact ⟨rfl, hb⟩
      · obtain ⟨g, M, rfl, homM, _⟩ := HONE.out 0 hz
        obtain ⟨e1, e2⟩ := HEND.out M homM (HALL.out M homM) hz
        have HE1 := Lib.hid e1
        have hd : decide (0 ≤ (mf k).1) = true := decide_eq_true e2
        clear e1 homM
        generalize (mf k).1 = m1 at *
        go_wp2
        go_ret2
        rw [HE1.out]
        refine ⟨?_, hb⟩
        first
          | (rw [Int.max_eq_left e2]; rfl)
          | simp_all
end Go.Proofs.YtdelkgfodeilkaaDoor
