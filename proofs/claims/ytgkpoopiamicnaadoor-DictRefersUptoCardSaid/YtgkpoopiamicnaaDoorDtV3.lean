/-
  Layer 40: slices.SortFunc's siftDown and heapSort on a row of texts, compared by a method. Conditions: indices in the row.
-/
import Derived.Test.YtgkpoopiamicnaaDoorDtV2
namespace Go.Proofs.YtgkpoopiamicnaaDoor
open Go.RowKit Go.Lib
section
variable {α : Type} [Inhabited α] {enc : α → ByteArray} {B : Nat} {w0 W W' : World} {blk : Nat} {d : Array α}
section
variable {lt : α → α → Bool} {hi first root c p q q1 : Nat}
theorem sift_end (h : hi ≤ c) (hc : 2 * root + 1 = c) : Sort.siftDown lt hi first root d = d := by subst hc; rw [Sort.siftDown, dif_pos h]
theorem sift_two_go (hc : 2 * root + 1 = c) (h : c + 1 < hi) (hp : first + root = p) (hq : first + c = q) (hq1 : q + 1 = q1) (h1 : lt d[q]! d[q1]! = true) (h2 : lt d[p]! d[q1]! = true) : Sort.siftDown lt hi first root d = Sort.siftDown lt hi first (c + 1) (Sort.swp d p q1) := by
  subst hc hp hq hq1
  rw [Sort.siftDown, dif_neg (by omega), if_pos (by rw [h1]; simpa using h), if_neg (by rw [show first + (2 * root + 2) = first + (2 * root + 1) + 1 by omega, h2]; simp), dif_pos (by omega)]
  rfl
theorem sift_two_end (hc : 2 * root + 1 = c) (h : c + 1 < hi) (hp : first + root = p) (hq : first + c = q) (hq1 : q + 1 = q1) (h1 : lt d[q]! d[q1]! = true) (h2 : lt d[p]! d[q1]! = false) : Sort.siftDown lt hi first root d = d := by
  subst hc hp hq hq1
  rw [Sort.siftDown, dif_neg (by omega), if_pos (by rw [h1]; simpa using h), if_pos (by rw [show first + (2 * root + 2) = first + (2 * root + 1) + 1 by omega, h2]; simp)]
theorem sift_one_go (hc : 2 * root + 1 = c) (h : c < hi) (hp : first + root = p) (hq : first + c = q) (hq1 : q + 1 = q1) (h1 : c + 1 < hi → lt d[q]! d[q1]! = false) (h2 : lt d[p]! d[q]! = true) : Sort.siftDown lt hi first root d = Sort.siftDown lt hi first c (Sort.swp d p q) := by
  subst hc hp hq hq1
  rw [Sort.siftDown, dif_neg (by omega), if_neg (by
    intro hh
    simp only [Bool.and_eq_true, decide_eq_true_eq] at hh
    have := h1 hh.1
    rw [hh.2] at this
    cases this), if_neg (by rw [h2]; simp)]
theorem sift_one_end (hc : 2 * root + 1 = c) (h : c < hi) (hp : first + root = p) (hq : first + c = q) (hq1 : q + 1 = q1) (h1 : c + 1 < hi → lt d[q]! d[q1]! = false) (h2 : lt d[p]! d[q]! = false) : Sort.siftDown lt hi first root d = d := by
  subst hc hp hq hq1
  rw [Sort.siftDown, dif_neg (by omega), if_neg (by
    intro hh
    simp only [Bool.and_eq_true, decide_eq_true_eq] at hh
    have := h1 hh.1
    rw [hh.2] at this
    cases this), if_pos (by rw [h2]; simp)]
end
end
theorem wrapN {n : Nat} (h : n ≤ 4000000) : IntKind.i64.wrap (n : Int) = (n : Int) := by rw [IntKind.wrap_i64]; omega
theorem ltC_t {α : Type} {cf : α → α → Int} {x y : α} {c : Int} (h : cf x y = c) (hl : c < 0) : ltC cf x y = true := by unfold ltC; rw [h]; exact decide_eq_true hl
theorem ltC_f {α : Type} {cf : α → α → Int} {x y : α} {c : Int} (h : cf x y = c) (hl : ¬ c < 0) : ltC cf x y = false := by unfold ltC; rw [h]; exact decide_eq_false hl
section
variable {α : Type} [Inhabited α] {enc : α → ByteArray} {B : Nat} {w0 W W' : World} {blk : Nat} {d : Array α}
set_option maxRecDepth 20000 in
set_option maxHeartbeats 8000000 in
theorem vsift (cf : α → α → Int) (g : Nat) (hC : CmpM enc cf B w0 g) (cap hi first root : Nat) (hb : first + hi ≤ d.size) (hr : root ≤ 1000000) (hsz : d.size ≤ 1000000) (h : StR enc B w0 blk d W) :
    Calls Tryd.prog 99 #[.slice (some ⟨blk, 0, none⟩) d.size cap, .int .i64 root, .int .i64 hi, .int .i64 first, ordV g] W fun e W' => e = .returned (.tuple #[]) ∧ StR enc B w0 blk (Sort.siftDown (ltC cf) hi first root d) W' := by
  have H := Lib.hid h; have HC := Lib.hid hC
  obtain ⟨N, hN⟩ : ∃ N, d.size = N := ⟨_, rfl⟩
  have HN := Lib.hid hN
  rw [hN] at hb hsz ⊢
  clear h hN hC
  go_enter Tryd.func99, Tryd.ntmps99
  go_wp2
  go_loopw [10, 11] (fun v10 _ wr => ∃ (r : Nat) (dj : Array α), v10 = .int .i64 r ∧ dj.size = N ∧ r ≤ 1000000 ∧ StR enc B w0 blk dj wr ∧ Hid (Sort.siftDown (ltC cf) hi first r dj = Sort.siftDown (ltC cf) hi first root d)) (fun v10 _ _ => (hi - RowKit.intOf v10).toNat)
  case atStart => exact ⟨root, d, by go_num, HN.out, hr, H.out, rfl⟩
  case round =>
    obtain ⟨r, dj, rfl, hdj, hr1, hst, HE⟩ := hrel
    have HDJ := Lib.hid hdj; have HST := Lib.hid hst
    obtain ⟨c, hc⟩ : ∃ c, 2 * r + 1 = c := ⟨_, rfl⟩
    obtain ⟨p, hp⟩ : ∃ p, first + r = p := ⟨_, rfl⟩
    obtain ⟨q, hq⟩ : ∃ q, first + c = q := ⟨_, rfl⟩
    obtain ⟨q1, hq1⟩ : ∃ x, q + 1 = x := ⟨_, rfl⟩
    obtain ⟨ch, hch⟩ : ∃ x, c + 1 = x := ⟨_, rfl⟩
    have HCq := Lib.hid hc; have HPp := Lib.hid hp; have HQq := Lib.hid hq; have HQ1 := Lib.hid hq1; have HCH := Lib.hid hch
    have hw2 : IntKind.i64.wrap (2 * (r : Int)) = 2 * (r : Int) := by rw [IntKind.wrap_i64]; omega
    have hcz : 2 * (r : Int) + 1 = (c : Int) := by omega
    have hpz : (first : Int) + (r : Int) = (p : Int) := by omega
    have hqz : (first : Int) + (c : Int) = (q : Int) := by omega
    have hq1z : (q : Int) + 1 = (q1 : Int) := by omega
    have hchz : (c : Int) + 1 = (ch : Int) := by omega
    have hcq1z : (first : Int) + (ch : Int) = (q1 : Int) := by omega
    have wc := wrapN (n := c) (by omega); have wch := wrapN (n := ch) (by omega)
    clear hst hdj
    by_cases hlt : c < hi
    · have wp' := wrapN (n := p) (by omega); have wq := wrapN (n := q) (by omega); have wq1 := wrapN (n := q1) (by omega)
      have hltz : ¬ (hi : Int) ≤ (c : Int) := by omega
      have hpN : (p : Int) < (N : Int) := by omega
      have hqN : (q : Int) < (N : Int) := by omega
      have hpN' : p < N := by omega
      have hqN' : q < N := by omega
      by_cases hl1 : ch < hi
      · have hl1z : (ch : Int) < (hi : Int) := by omega
        have hq1N : (q1 : Int) < (N : Int) := by omega
        have hq1N' : q1 < N := by omega
        have hdr := HST.out.drew
        obtain ⟨x0, hx0⟩ : ∃ x, enc dj[q]! = x := ⟨_, rfl⟩
        obtain ⟨y0, hy0⟩ : ∃ x, enc dj[q1]! = x := ⟨_, rfl⟩
        obtain ⟨c0, hc0⟩ : ∃ x, cf dj[q]! dj[q1]! = x := ⟨_, rfl⟩
        have c1 : ∀ zp : InS (StR enc B w0 blk dj), zp.W.cell? ⟨blk, q, none⟩ = some (.string x0) := fun zp => (zp.ok.cells HDJ.out (by omega) hx0).1
        have c2 : ∀ zp : InS (StR enc B w0 blk dj), zp.W.cell? ⟨blk, q1, none⟩ = some (.string y0) := fun zp => (zp.ok.cells HDJ.out (by omega) hy0).1
        have hcall : ∀ zp : InS (StR enc B w0 blk dj), Calls Tryd.prog 33 #[wptr g, .string x0, .string y0] zp.W fun e W' => e = .returned (.int .i64 c0) ∧ ∃ zq : InS (StR enc B w0 blk dj), W' = zq.W := fun zp => by
          have := HC.out.in_ zp dj[q]! dj[q1]!
          rw [hx0, hy0, hc0] at this
          exact this
        have Hx0 := Lib.hid hx0; have Hy0 := Lib.hid hy0; have Hc0 := Lib.hid hc0
        clear hx0 hy0 hc0
        by_cases hlv0 : c0 < 0
        · have HLV0 := Lib.hid hlv0
          go_wp2_with fail
          go_in (StR enc B w0 blk dj) (exact hcall _)
          have hdr := pq.ok.drew
          clear c1 c2 hcall
          obtain ⟨x, hx⟩ : ∃ x, enc dj[p]! = x := ⟨_, rfl⟩
          obtain ⟨y, hy⟩ : ∃ x, enc dj[q1]! = x := ⟨_, rfl⟩
          obtain ⟨cv, hcv⟩ : ∃ x, cf dj[p]! dj[q1]! = x := ⟨_, rfl⟩
          have c1 : ∀ zp : InS (StR enc B w0 blk dj), zp.W.cell? ⟨blk, p, none⟩ = some (.string x) := fun zp => (zp.ok.cells HDJ.out (by omega) hx).1
          have c2 : ∀ zp : InS (StR enc B w0 blk dj), zp.W.cell? ⟨blk, q1, none⟩ = some (.string y) := fun zp => (zp.ok.cells HDJ.out (by omega) hy).1
          have hcall : ∀ zp : InS (StR enc B w0 blk dj), Calls Tryd.prog 33 #[wptr g, .string x, .string y] zp.W fun e W' => e = .returned (.int .i64 cv) ∧ ∃ zq : InS (StR enc B w0 blk dj), W' = zq.W := fun zp => by
            have := HC.out.in_ zp dj[p]! dj[q1]!
            rw [hx, hy, hcv] at this
            exact this
          have Hx := Lib.hid hx; have Hy := Lib.hid hy; have Hcv := Lib.hid hcv
          clear hx hy hcv
          by_cases hlv : cv < 0
          · have HLV := Lib.hid hlv
            go_wp2_with fail
            go_in (StR enc B w0 blk dj) (exact hcall _)
            have hok := Lib.hid pq.ok
            clear c1 c2 hcall hdr
            obtain ⟨d1, f1, -⟩ := hok.out.cells HDJ.out (by omega) Hx.out
            obtain ⟨d2, f2, -⟩ := hok.out.cells HDJ.out (by omega) Hy.out
            obtain ⟨u, d3⟩ := hok.out.two (i := p) (j := q1) (by rw [HDJ.out]; omega) (by rw [HDJ.out]; omega) (.string y)
            go_wp2_with fail
            go_region
            all_goals go_wp2
            go_roundw
            case rel => exact ⟨ch, Sort.swp dj p q1, by go_num, by rw [Sort.size_swp]; exact HDJ.out, by omega, hok.out.swapN HDJ.out (by omega) (by omega) Hx.out Hy.out, by show _ = _; rw [← HE.out, sift_two_go HCq.out (by omega) HPp.out HQq.out HQ1.out (ltC_t Hc0.out (by have := HLV0.out; omega)) (ltC_t Hcv.out (by have := HLV.out; omega)), HCH.out]⟩
            case measure => simp [RowKit.intOf] <;> omega
          · have HLV := Lib.hid hlv
            go_wp2_with fail
            go_in (StR enc B w0 blk dj) (exact hcall _)
            have hok := Lib.hid pq.ok
            clear c1 c2 hcall hdr
            have hB : (!decide (cv < 0)) = true := by have := HLV.out; simp; omega
            have HB := Lib.hid hB
            clear hB
            go_wp2
            all_goals first | (exact absurd ‹(!decide (cv < 0)) = false› (by rw [HB.out]; exact Bool.noConfusion)) | skip
            exact bodyPost_ret (v := .tuple #[]) (by simp [results, Tryd.results99, go_sem]) rfl ⟨rfl, by rw [← HE.out, sift_two_end HCq.out (by omega) HPp.out HQq.out HQ1.out (ltC_t Hc0.out (by have := HLV0.out; omega)) (ltC_f Hcv.out (by have := HLV.out; omega))]; exact hok.out⟩
        · have HLV0 := Lib.hid hlv0
          go_wp2_with fail
          go_in (StR enc B w0 blk dj) (exact hcall _)
          have hdr := pq.ok.drew
          clear c1 c2 hcall
          obtain ⟨x, hx⟩ : ∃ x, enc dj[p]! = x := ⟨_, rfl⟩
          obtain ⟨y, hy⟩ : ∃ x, enc dj[q]! = x := ⟨_, rfl⟩
          obtain ⟨cv, hcv⟩ : ∃ x, cf dj[p]! dj[q]! = x := ⟨_, rfl⟩
          have c1 : ∀ zp : InS (StR enc B w0 blk dj), zp.W.cell? ⟨blk, p, none⟩ = some (.string x) := fun zp => (zp.ok.cells HDJ.out (by omega) hx).1
          have c2 : ∀ zp : InS (StR enc B w0 blk dj), zp.W.cell? ⟨blk, q, none⟩ = some (.string y) := fun zp => (zp.ok.cells HDJ.out (by omega) hy).1
          have hcall : ∀ zp : InS (StR enc B w0 blk dj), Calls Tryd.prog 33 #[wptr g, .string x, .string y] zp.W fun e W' => e = .returned (.int .i64 cv) ∧ ∃ zq : InS (StR enc B w0 blk dj), W' = zq.W := fun zp => by
            have := HC.out.in_ zp dj[p]! dj[q]!
            rw [hx, hy, hcv] at this
            exact this
          have Hx := Lib.hid hx; have Hy := Lib.hid hy; have Hcv := Lib.hid hcv
          clear hx hy hcv
          by_cases hlv : cv < 0
          · have HLV := Lib.hid hlv
            go_wp2_with fail
            go_in (StR enc B w0 blk dj) (exact hcall _)
            have hok := Lib.hid pq.ok
            clear c1 c2 hcall hdr
            obtain ⟨d1, f1, -⟩ := hok.out.cells HDJ.out (by omega) Hx.out
            obtain ⟨d2, f2, -⟩ := hok.out.cells HDJ.out (by omega) Hy.out
            obtain ⟨u, d3⟩ := hok.out.two (i := p) (j := q) (by rw [HDJ.out]; omega) (by rw [HDJ.out]; omega) (.string y)
            go_wp2_with fail
            go_region
            all_goals go_wp2
            go_roundw
            case rel => exact ⟨c, Sort.swp dj p q, by go_num, by rw [Sort.size_swp]; exact HDJ.out, by omega, hok.out.swapN HDJ.out (by omega) (by omega) Hx.out Hy.out, by show _ = _; rw [← HE.out, sift_one_go HCq.out hlt HPp.out HQq.out HQ1.out (fun _ => ltC_f Hc0.out (by have := HLV0.out; omega)) (ltC_t Hcv.out (by have := HLV.out; omega))]⟩
            case measure => simp [RowKit.intOf] <;> omega
          · have HLV := Lib.hid hlv
            go_wp2_with fail
            go_in (StR enc B w0 blk dj) (exact hcall _)
            have hok := Lib.hid pq.ok
            clear c1 c2 hcall hdr
            have hB : (!decide (cv < 0)) = true := by have := HLV.out; simp; omega
            have HB := Lib.hid hB
            clear hB
            go_wp2
            all_goals first | (exact absurd ‹(!decide (cv < 0)) = false› (by rw [HB.out]; exact Bool.noConfusion)) | skip
            exact bodyPost_ret (v := .tuple #[]) (by simp [results, Tryd.results99, go_sem]) rfl ⟨rfl, by rw [← HE.out, sift_one_end HCq.out hlt HPp.out HQq.out HQ1.out (fun _ => ltC_f Hc0.out (by have := HLV0.out; omega)) (ltC_f Hcv.out (by have := HLV.out; omega))]; exact hok.out⟩
      · have hl1z : ¬ (ch : Int) < (hi : Int) := by omega
        have hl1z' : (hi : Int) ≤ (ch : Int) := by omega
        have hdr0 := Lib.hid HST.out.drew
        go_wp2_with fail
        go_region
        have hdr := hdr0.out.drew
        obtain ⟨x, hx⟩ : ∃ x, enc dj[p]! = x := ⟨_, rfl⟩
        obtain ⟨y, hy⟩ : ∃ x, enc dj[q]! = x := ⟨_, rfl⟩
        obtain ⟨cv, hcv⟩ : ∃ x, cf dj[p]! dj[q]! = x := ⟨_, rfl⟩
        have c1 : ∀ zp : InS (StR enc B w0 blk dj), zp.W.cell? ⟨blk, p, none⟩ = some (.string x) := fun zp => (zp.ok.cells HDJ.out (by omega) hx).1
        have c2 : ∀ zp : InS (StR enc B w0 blk dj), zp.W.cell? ⟨blk, q, none⟩ = some (.string y) := fun zp => (zp.ok.cells HDJ.out (by omega) hy).1
        have hcall : ∀ zp : InS (StR enc B w0 blk dj), Calls Tryd.prog 33 #[wptr g, .string x, .string y] zp.W fun e W' => e = .returned (.int .i64 cv) ∧ ∃ zq : InS (StR enc B w0 blk dj), W' = zq.W := fun zp => by
          have := HC.out.in_ zp dj[p]! dj[q]!
          rw [hx, hy, hcv] at this
          exact this
        have Hx := Lib.hid hx; have Hy := Lib.hid hy; have Hcv := Lib.hid hcv
        clear hx hy hcv
        by_cases hlv : cv < 0
        · have HLV := Lib.hid hlv
          go_wp2_with fail
          go_in (StR enc B w0 blk dj) (exact hcall _)
          have hok := Lib.hid pq.ok
          clear c1 c2 hcall hdr
          obtain ⟨d1, f1, -⟩ := hok.out.cells HDJ.out (by omega) Hx.out
          obtain ⟨d2, f2, -⟩ := hok.out.cells HDJ.out (by omega) Hy.out
          obtain ⟨u, d3⟩ := hok.out.two (i := p) (j := q) (by rw [HDJ.out]; omega) (by rw [HDJ.out]; omega) (.string y)
          go_wp2_with fail
          go_region
          all_goals go_wp2
          go_roundw
          case rel => exact ⟨c, Sort.swp dj p q, by go_num, by rw [Sort.size_swp]; exact HDJ.out, by omega, hok.out.swapN HDJ.out (by omega) (by omega) Hx.out Hy.out, by show _ = _; rw [← HE.out, sift_one_go HCq.out hlt HPp.out HQq.out HQ1.out (fun h => absurd (show ch < hi by have := HCH.out; omega) hl1) (ltC_t Hcv.out (by have := HLV.out; omega))]⟩
          case measure => simp [RowKit.intOf] <;> omega
        · have HLV := Lib.hid hlv
          go_wp2_with fail
          go_in (StR enc B w0 blk dj) (exact hcall _)
          have hok := Lib.hid pq.ok
          clear c1 c2 hcall hdr
          have hB : (!decide (cv < 0)) = true := by have := HLV.out; simp; omega
          have HB := Lib.hid hB
          clear hB
          go_wp2
          all_goals first | (exact absurd ‹(!decide (cv < 0)) = false› (by rw [HB.out]; exact Bool.noConfusion)) | skip
          exact bodyPost_ret (v := .tuple #[]) (by simp [results, Tryd.results99, go_sem]) rfl ⟨rfl, by rw [← HE.out, sift_one_end HCq.out hlt HPp.out HQq.out HQ1.out (fun h => absurd (show ch < hi by have := HCH.out; omega) hl1) (ltC_f Hcv.out (by have := HLV.out; omega))]; exact hok.out⟩
    · have hltz : (hi : Int) ≤ (c : Int) := by omega
      have HEND := Lib.hid (sift_end (lt := ltC cf) (first := first) (d := dj) (by omega : hi ≤ c) HCq.out)
      go_wp2
      go_end0
      exact ⟨rfl, by rw [← HE.out, HEND.out]; exact HST.out⟩
end
end Go.Proofs.YtgkpoopiamicnaaDoor
