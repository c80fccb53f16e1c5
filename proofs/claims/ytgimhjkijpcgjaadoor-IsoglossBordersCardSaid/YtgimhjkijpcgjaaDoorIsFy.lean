/-
  Plain facts of layer 37, of no program: borders with greater leasts; the connected parts of a map. Conditions: a map of New.
-/
import Derived.Test.YtgimhjkijpcgjaaDoorGba
import Derived.Test.YtgimhjkijpcgjaaDoorGag
import Derived.Test.YtgimhjkijpcgjaaDoorGai
namespace Go.Proofs.YtgimhjkijpcgjaaDoor
open Go.RowKit Go.Lib

theorem lbI_none (n : Nat) : lbI n [] = (List.range n).map fun (a : Nat) => (a : Int) := by
  unfold lbI
  refine List.map_congr_left fun a ha => ?_
  have hL := lbF_lab (es := []) (n := n) (by simp)
  have h1 := hL.con a (List.mem_range.1 ha) id (fun _ h => by cases h)
  show ((lbF [] n a : Nat) : Int) = (a : Int)
  have h2 : a = lbF [] n a := h1
  omega
theorem cls_none (n : Nat) : clsN (lbI n []) n = n := by
  unfold clsN
  have h : (List.range n).filter (fun (i : Nat) => valAt (lbI n []) (i : Int) == (i : Int)) = List.range n := by
    rw [List.filter_eq_self]
    intro i hi
    have hi' := List.mem_range.1 hi
    have h1 := lbI_val (es := []) hi'
    rw [h1]
    have hL := lbF_lab (es := []) (n := n) (by simp)
    have h2 : i = lbF [] n i := hL.con i hi' id (fun _ h => by cases h)
    rw [← h2]; simp
  rw [h, List.length_range]
theorem bor_low (R : List Rd) (gs : List (List Int)) {least : Int} (h : least ≤ 0) : borE R gs least = [] := by
  unfold borE openE
  rw [List.filter_eq_nil_iff.2]
  · rfl
  · intro x _
    simp
    omega
theorem bor_mono (R : List Rd) (gs : List (List Int)) {p q : Int} (h : p ≤ q) : ∀ e ∈ borE R gs p, e ∈ borE R gs q := fun e he => by
  obtain ⟨x, hx, rfl⟩ := List.mem_map.1 he
  obtain ⟨h1, h2⟩ := List.mem_filter.1 hx
  refine List.mem_map.2 ⟨x, List.mem_filter.2 ⟨h1, ?_⟩, rfl⟩
  rw [decide_eq_true_iff] at h2 ⊢
  omega
theorem bor_high (R : List Rd) (gs : List (List Int)) {q : Int} (h : (gs.length : Int) < q) : borE R gs q = openE R fun _ => true := by
  refine openE_congr fun x _ => ?_
  have := bundN_le gs x
  rw [decide_eq_true_iff]
  omega
/-- With a greater least, points stay together. -/
theorem bor_keep {R : List Rd} {gs : List (List Int)} {n : Nat} (hok : ∀ x ∈ R, Okr n x) {p q : Int} (h : p ≤ q) {a : Nat} (ha : a < n) : lbF (borE R gs q) n (lbF (borE R gs p) n a) = lbF (borE R gs q) n a :=
  ((lbF_lab (openE_in hok _)).same (((lbF_lab (openE_in hok _)).con a ha).mono (bor_mono R gs h))).symm
theorem dist_con {M : Pts} (hM : GoodM M) {es : List (Nat × Nat)} (hes : ∀ u v l, edgeOf M u v l → Con es u v) {a : Nat} : ∀ (k : Nat) (v : Nat), 0 ≤ distM M a v → distM M a v ≤ k → Con es a v
  | k, v, h0, hk => by
    rcases (hM.dist a).pred v h0 with rfl | ⟨u, l, he, hu, hv⟩
    · exact Con.refl _ _
    · have hl := (hM.lens u v l he).1
      cases k with
      | zero => omega
      | succ k => exact (dist_con hM hes k u hu (by omega)).trans (hes u v l he)
theorem lab_all {names : List ByteArray} {R : List Rd} (h : newE names R = 0) : labelsS (newM names R) = lbI names.length (openE R fun _ => true) := by
  have hM := good_new h
  obtain ⟨_, _, _, hok, _⟩ := newE_zero h
  have hn : (newM names R).n = names.length := rfl
  have hes : ∀ u v l, edgeOf (newM names R) u v l → Con (openE R fun _ => true) u v := fun u v l he => by
    obtain ⟨x, hx, hr⟩ := (edge_new h u v l).1 he
    have hm : (x.1.toNat, x.2.1.toNat) ∈ openE R fun _ => true := List.mem_map.2 ⟨x, List.mem_filter.2 ⟨hx, rfl⟩, rfl⟩
    rcases hr with ⟨h1, h2, _⟩ | ⟨h1, h2, _⟩
    · have e1 : x.1.toNat = u := by omega
      have e2 : x.2.1.toNat = v := by omega
      rw [e1, e2] at hm
      exact Con.edge hm
    · have e1 : x.1.toNat = v := by omega
      have e2 : x.2.1.toNat = u := by omega
      rw [e1, e2] at hm
      exact (Con.edge hm).symm
  have hin : ∀ e ∈ openE R (fun _ => true), e.1 < names.length ∧ e.2 < names.length := openE_in hok _
  have hlab : Lab (openE R fun _ => true) names.length (fun b => (firstC (newM names R) names.length b).getD b) := by
    have hself : ∀ b, b < names.length → ∃ c, firstC (newM names R) names.length b = some c := fun b hb => firstC_self hM hb
    refine ⟨fun b hb => ?_, fun b hb => ?_, fun e he => ?_⟩
    · obtain ⟨c, hc⟩ := hself b hb
      show (firstC (newM names R) names.length b).getD b ≤ b
      rw [hc]
      show c ≤ b
      rcases Nat.lt_or_ge b c with hl | hl
      · exfalso
        unfold firstC at hc
        have h1 := (List.find?_range_eq_some).1 hc
        have h2 := h1.2.2 b hl
        rw [hM.self] at h2
        simp at h2
      · exact hl
    · obtain ⟨c, hc⟩ := hself b hb
      show Con _ b ((firstC (newM names R) names.length b).getD b)
      rw [hc]
      have h0 := (firstC_some hc).2
      exact (dist_con hM hes (distM (newM names R) c b).toNat b h0 (by omega)).symm
    · obtain ⟨x, hx, rfl⟩ := List.mem_map.1 he
      have hx' := (List.mem_filter.1 hx).1
      obtain ⟨h1, h2⟩ := hin _ he
      obtain ⟨a0, a1, b0, b1, _, _, _⟩ := hok x hx'
      simp only at h1 h2
      have hedge : edgeOf (newM names R) x.1.toNat x.2.1.toNat x.2.2 := (edge_new h _ _ _).2 ⟨x, hx', .inl ⟨by omega, by omega, rfl⟩⟩
      have hd : 0 ≤ distM (newM names R) x.1.toNat x.2.1.toNat := ((hM.dist x.1.toNat).step _ _ _ hedge (by rw [hM.self]; omega)).1
      have hl := (lab_eq hM h1 h2).2 hd
      obtain ⟨c, hc⟩ := hself _ h1
      obtain ⟨c', hc'⟩ := hself _ h2
      show (firstC (newM names R) names.length x.1.toNat).getD x.1.toNat = (firstC (newM names R) names.length x.2.1.toNat).getD x.2.1.toNat
      rw [labK_some hc, labK_some hc'] at hl
      rw [hc, hc']
      show c = c'
      omega
  unfold labelsS lbI
  rw [hn]
  refine List.map_congr_left fun b hb => ?_
  have hb' := List.mem_range.1 hb
  have := hlab.unique (lbF_lab hin) hb'
  obtain ⟨c, hc⟩ := firstC_self hM hb'
  rw [labK_some hc, ← this]
  show (c : Int) = (((firstC (newM names R) names.length b).getD b : Nat) : Int)
  rw [hc]; rfl
end Go.Proofs.YtgimhjkijpcgjaaDoor
