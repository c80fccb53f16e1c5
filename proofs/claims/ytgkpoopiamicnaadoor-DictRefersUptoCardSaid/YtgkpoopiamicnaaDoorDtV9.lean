/-
  Layer 40: slices.SortFunc's partitionEqual on a row of texts, compared by a method. Conditions: indices in the row.
-/
import Derived.Test.YtgkpoopiamicnaaDoorDtV8
namespace Go.Proofs.YtgkpoopiamicnaaDoor
open Go.RowKit Go.Lib
section
variable {α : Type} [Inhabited α] {enc : α → ByteArray} {B : Nat} {w0 W W' : World} {blk : Nat} {d : Array α}
set_option linter.unusedSimpArgs false in
set_option maxRecDepth 20000 in
set_option maxHeartbeats 16000000 in
theorem vparteq (cf : α → α → Int) (g : Nat) (hC : CmpM enc cf B w0 g) (cap a b pivot : Nat) (hap : a ≤ pivot) (hpb : pivot < b) (hb : b ≤ d.size) (hsz : d.size ≤ 1000000) (h : StR enc B w0 blk d W) :
    Calls Tryd.prog 85 #[.slice (some ⟨blk, 0, none⟩) d.size cap, .int .i64 a, .int .i64 b, .int .i64 pivot, ordV g] W (PartEPost enc B w0 blk (Sort.partitionEqual (ltC cf) d a b pivot)) := by
  have H := Lib.hid h; have HC := Lib.hid hC
  obtain ⟨N, hN⟩ : ∃ N, d.size = N := ⟨_, rfl⟩
  have HN := Lib.hid hN
  rw [hN] at hb hsz ⊢
  clear h hN hC
  go_enter Tryd.func85, Tryd.ntmps85
  obtain ⟨xa, hxa⟩ : ∃ x, enc d[a]! = x := ⟨_, rfl⟩
  obtain ⟨ya, hya⟩ : ∃ x, enc d[pivot]! = x := ⟨_, rfl⟩
  obtain ⟨d1, f1, z1⟩ := H.out.cells HN.out (by omega) hxa
  obtain ⟨d2, f2, z2⟩ := H.out.cells HN.out (by omega) hya
  obtain ⟨u, d3⟩ := H.out.two (i := a) (j := pivot) (by rw [HN.out]; omega) (by rw [HN.out]; omega) (.string ya)
  have Hs := Lib.hid (H.out.swapN HN.out (by omega) (by omega) hxa hya)
  clear hxa hya
  go_wp2_with fail
  go_region
  clear d1 d2 d3 f1 f2
  obtain ⟨i1, hi⟩ : ∃ i : Nat, i = a + 1 := ⟨_, rfl⟩
  obtain ⟨j1, hj⟩ : ∃ j : Nat, j = b - 1 := ⟨_, rfl⟩
  obtain ⟨dk1, hdk⟩ : ∃ dk : Array α, dk = Sort.swp d a pivot := ⟨_, rfl⟩
  rw [← hdk] at Hs
  have hs1 : dk1.size = N := by rw [hdk, Sort.size_swp]; exact HN.out
  have hai1 : a < i1 := by omega
  have hij1 : i1 ≤ j1 + 1 := by omega
  have hjb1 : j1 < b := by omega
  have ezi : ((a : Int) + 1) = (i1 : Int) := by omega
  have ezj : ((b : Int) - 1) = (j1 : Int) := by omega
  have Hi := Lib.hid hi; have Hj := Lib.hid hj; have Hdk := Lib.hid hdk; have HS1 := Lib.hid hs1
  clear hi hj hdk hs1
  go_wp2
  go_loopw [11, 12] (fun vi vj wr => ∃ (i2 j2 : Nat) (dk2 : Array α), vi = .int .i64 i2 ∧ vj = .int .i64 j2 ∧ a < i2 ∧ i2 ≤ j2 + 1 ∧ j2 < b ∧ dk2.size = N ∧ StR enc B w0 blk dk2 wr ∧ Hid (Sort.partEqLoop (ltC cf) a i2 j2 dk2 = Sort.partEqLoop (ltC cf) a i1 j1 dk1)) (fun vi vj _ => (RowKit.intOf vj + 1 - RowKit.intOf vi).toNat)
  case atStart => exact ⟨i1, j1, dk1, rfl, rfl, hai1, hij1, hjb1, HS1.out, Hs.out, rfl⟩
  case round =>
    obtain ⟨i2, j2, dk2, rfl, rfl, hai2, hij2, hjb2, hs2, hst2, AE⟩ := hrel
    have HS2 := Lib.hid hs2; have HST2 := Lib.hid hst2
    clear hs2 hst2
    go_wp2
    go_loopw [11] (fun vi w1 => ∃ (p2 : Nat), vi = .int .i64 p2 ∧ i2 ≤ p2 ∧ p2 ≤ j2 + 1 ∧ StR enc B w0 blk dk2 w1 ∧ Hid (Sort.scanUp (fun x => !(ltC cf) dk2[a]! x) dk2 j2 p2 = Sort.scanUp (fun x => !(ltC cf) dk2[a]! x) dk2 j2 i2)) (fun vi _ => (j2 + 1 - RowKit.intOf vi).toNat)
    case atStart => exact ⟨i2, rfl, Nat.le_refl _, hij2, HST2.out, rfl⟩
    case round =>
      obtain ⟨p2, rfl, hii2, hpj2, hst, HSC2⟩ := hrel
      have HSU2 := Lib.hid hst
      have hdr := hst.drew
      clear hst
      by_cases hle2 : p2 ≤ j2
      · have hgu : (p2 : Int) ≤ (j2 : Int) := by omega
        obtain ⟨x, hx⟩ : ∃ x, enc dk2[a]! = x := ⟨_, rfl⟩
        obtain ⟨y, hy⟩ : ∃ x, enc dk2[p2]! = x := ⟨_, rfl⟩
        obtain ⟨cv, hcv⟩ : ∃ x, cf dk2[a]! dk2[p2]! = x := ⟨_, rfl⟩
        have bi : (a : Int) < (N : Int) := by omega
        have bj : (p2 : Int) < (N : Int) := by omega
        have c1 : ∀ zp : InS (StR enc B w0 blk dk2), zp.W.cell? ⟨blk, a, none⟩ = some (.string x) := fun zp => (zp.ok.cells HS2.out (by omega) hx).1
        have c2 : ∀ zp : InS (StR enc B w0 blk dk2), zp.W.cell? ⟨blk, p2, none⟩ = some (.string y) := fun zp => (zp.ok.cells HS2.out (by omega) hy).1
        have hcall : ∀ zp : InS (StR enc B w0 blk dk2), Calls Tryd.prog 33 #[wptr g, .string x, .string y] zp.W fun e W' => e = .returned (.int .i64 cv) ∧ ∃ zq : InS (StR enc B w0 blk dk2), W' = zq.W := fun zp => by
          have := HC.out.in_ zp dk2[a]! dk2[p2]!
          rw [hx, hy, hcv] at this
          exact this
        have Hcv := Lib.hid hcv
        clear hx hy hcv
        by_cases hlv : cv < 0
        · have HIU2 := Lib.hid (show p2 = Sort.scanUp (fun x => !(ltC cf) dk2[a]! x) dk2 j2 i2 from (sUp_end (fun x => !(ltC cf) dk2[a]! x) dk2 j2 p2 (Or.inr (by show (!(ltC cf) dk2[a]! dk2[p2]!) = false; rw [(ltC_t Hcv.out (by omega))]; rfl))).symm.trans HSC2.out)
          go_wp2_with fail
          go_in (StR enc B w0 blk dk2) (exact hcall _)
          try simp only [show decide (cv < 0) = true from decide_eq_true (by omega), Bool.not_true]
          have hov2 := Lib.hid pq.ok
          clear c1 c2 hcall hdr
          go_wp2
          go_loopw [12] (fun vj w2 => ∃ (q2 : Nat), vj = .int .i64 q2 ∧ q2 ≤ j2 ∧ p2 ≤ q2 + 1 ∧ StR enc B w0 blk dk2 w2 ∧ Hid (Sort.scanDown (fun x => (ltC cf) dk2[a]! x) dk2 p2 q2 = Sort.scanDown (fun x => (ltC cf) dk2[a]! x) dk2 p2 j2)) (fun vj _ => (RowKit.intOf vj).toNat)
          case atStart => exact ⟨j2, rfl, Nat.le_refl _, hpj2, hov2.out, rfl⟩
          case round =>
            obtain ⟨q2, rfl, hqj2, hpq2, hst, HSD2⟩ := hrel
            have HSV2 := Lib.hid hst
            have hdr := hst.drew
            clear hst
            by_cases hlq2 : p2 ≤ q2
            · have hgq : (p2 : Int) ≤ (q2 : Int) := by omega
              obtain ⟨x, hx⟩ : ∃ x, enc dk2[a]! = x := ⟨_, rfl⟩
              obtain ⟨y, hy⟩ : ∃ x, enc dk2[q2]! = x := ⟨_, rfl⟩
              obtain ⟨cv, hcv⟩ : ∃ x, cf dk2[a]! dk2[q2]! = x := ⟨_, rfl⟩
              have bi : (a : Int) < (N : Int) := by omega
              have bj : (q2 : Int) < (N : Int) := by omega
              have c1 : ∀ zp : InS (StR enc B w0 blk dk2), zp.W.cell? ⟨blk, a, none⟩ = some (.string x) := fun zp => (zp.ok.cells HS2.out (by omega) hx).1
              have c2 : ∀ zp : InS (StR enc B w0 blk dk2), zp.W.cell? ⟨blk, q2, none⟩ = some (.string y) := fun zp => (zp.ok.cells HS2.out (by omega) hy).1
              have hcall : ∀ zp : InS (StR enc B w0 blk dk2), Calls Tryd.prog 33 #[wptr g, .string x, .string y] zp.W fun e W' => e = .returned (.int .i64 cv) ∧ ∃ zq : InS (StR enc B w0 blk dk2), W' = zq.W := fun zp => by
                have := HC.out.in_ zp dk2[a]! dk2[q2]!
                rw [hx, hy, hcv] at this
                exact this
              have Hcv := Lib.hid hcv
              clear hx hy hcv
              by_cases hlv : cv < 0
              · go_wp2_with fail
                go_in (StR enc B w0 blk dk2) (exact hcall _)
                try simp only [show decide (cv < 0) = true from decide_eq_true (by omega), Bool.not_true]
                have hok := Lib.hid pq.ok
                clear c1 c2 hcall hdr
                go_wp2
                go_roundw
                case rel => exact ⟨q2 - 1, by go_num, by omega, by omega, hok.out, Lib.hid ((sDn_go (fun x => (ltC cf) dk2[a]! x) dk2 p2 q2 hlq2 (by omega) (ltC_t Hcv.out (by omega))).symm.trans HSD2.out)⟩
                case measure => simp [RowKit.intOf] <;> omega
              · have HJD2 := Lib.hid (show q2 = Sort.scanDown (fun x => (ltC cf) dk2[a]! x) dk2 p2 j2 from (sDn_end (fun x => (ltC cf) dk2[a]! x) dk2 p2 q2 (Or.inr (ltC_f Hcv.out (by omega)))).symm.trans HSD2.out)
                have hlt2 := pe_scans (ltC cf) a i2 j2 dk2 (by omega) HIU2.out HJD2.out hlq2
                have hgt : ¬ (q2 : Int) < (p2 : Int) := by omega
                have hgn : decide (q2 < p2) = false := decide_eq_false (by omega)
                have hgm : decide ((q2 : Int) < (p2 : Int)) = false := decide_eq_false (by omega)
                go_wp2_with fail
                go_in (StR enc B w0 blk dk2) (exact hcall _)
                try simp only [show decide (cv < 0) = false from decide_eq_false (by omega), Bool.not_false]
                have how2 := Lib.hid pq.ok
                clear c1 c2 hcall hdr
                obtain ⟨xa, hxa⟩ : ∃ x, enc dk2[p2]! = x := ⟨_, rfl⟩
                obtain ⟨ya, hya⟩ : ∃ x, enc dk2[q2]! = x := ⟨_, rfl⟩
                obtain ⟨d1, f1, z1⟩ := how2.out.cells HS2.out (by omega) hxa
                obtain ⟨d2, f2, z2⟩ := how2.out.cells HS2.out (by omega) hya
                obtain ⟨u, d3⟩ := how2.out.two (i := p2) (j := q2) (by rw [HS2.out]; omega) (by rw [HS2.out]; omega) (.string ya)
                have how2s := Lib.hid (how2.out.swapN HS2.out (by omega) (by omega) hxa hya)
                clear hxa hya
                go_wp2_with fail
                go_region
                clear d1 d2 d3 f1 f2
                go_wp2
                go_roundw
                case rel => exact ⟨p2 + 1, q2 - 1, Sort.swp dk2 p2 q2, by go_num, by go_num, by omega, by omega, by omega, by rw [Sort.size_swp]; exact HS2.out, how2s.out, by show _ = _; rw [← AE.out]; exact (pe_go (ltC cf) a i2 j2 dk2 HIU2.out HJD2.out (by omega)).symm⟩
                case measure => simp [RowKit.intOf] <;> omega
            · have HJD2 := Lib.hid (show q2 = Sort.scanDown (fun x => (ltC cf) dk2[a]! x) dk2 p2 j2 from (sDn_end (fun x => (ltC cf) dk2[a]! x) dk2 p2 q2 (Or.inl hlq2)).symm.trans HSD2.out)
              have hgq : ¬ (p2 : Int) ≤ (q2 : Int) := by omega
              have hgt : (q2 : Int) < (p2 : Int) := by omega
              have hoe2 := Lib.hid hdr
              clear hdr
              go_wp2_with fail
              go_region
              go_wp2
              go_ret
              exact show PartEPost enc B w0 blk _ _ _ by
                unfold Sort.partitionEqual
                rw [← Hi.out, ← Hj.out, ← Hdk.out, ← AE.out, pe_break (ltC cf) a i2 j2 dk2 HIU2.out HJD2.out (by omega)]
                exact ⟨rfl, hoe2.out⟩
        · go_wp2_with fail
          go_in (StR enc B w0 blk dk2) (exact hcall _)
          try simp only [show decide (cv < 0) = false from decide_eq_false (by omega), Bool.not_false]
          have hok := Lib.hid pq.ok
          clear c1 c2 hcall hdr
          go_wp2
          go_roundw
          case rel => exact ⟨p2 + 1, by go_num, by omega, by omega, hok.out, Lib.hid ((sUp_go (fun x => !(ltC cf) dk2[a]! x) dk2 j2 p2 hle2 (by show (!(ltC cf) dk2[a]! dk2[p2]!) = true; rw [(ltC_f Hcv.out (by omega))]; rfl)).symm.trans HSC2.out)⟩
          case measure => simp [RowKit.intOf] <;> omega
      · have HIU2 := Lib.hid (show p2 = Sort.scanUp (fun x => !(ltC cf) dk2[a]! x) dk2 j2 i2 from (sUp_end (fun x => !(ltC cf) dk2[a]! x) dk2 j2 p2 (Or.inl hle2)).symm.trans HSC2.out)
        have hgu : ¬ (p2 : Int) ≤ (j2 : Int) := by omega
        have hov2 := Lib.hid hdr
        clear hdr
        go_wp2_with fail
        go_region
        go_wp2
        go_loopw [12] (fun vj w2 => ∃ (q2 : Nat), vj = .int .i64 q2 ∧ q2 ≤ j2 ∧ p2 ≤ q2 + 1 ∧ StR enc B w0 blk dk2 w2 ∧ Hid (Sort.scanDown (fun x => (ltC cf) dk2[a]! x) dk2 p2 q2 = Sort.scanDown (fun x => (ltC cf) dk2[a]! x) dk2 p2 j2)) (fun vj _ => (RowKit.intOf vj).toNat)
        case atStart => exact ⟨j2, rfl, Nat.le_refl _, hpj2, hov2.out, rfl⟩
        case round =>
          obtain ⟨q2, rfl, hqj2, hpq2, hst, HSD2⟩ := hrel
          have HSV2 := Lib.hid hst
          have hdr := hst.drew
          clear hst
          by_cases hlq2 : p2 ≤ q2
          · exfalso; omega
          · have HJD2 := Lib.hid (show q2 = Sort.scanDown (fun x => (ltC cf) dk2[a]! x) dk2 p2 j2 from (sDn_end (fun x => (ltC cf) dk2[a]! x) dk2 p2 q2 (Or.inl hlq2)).symm.trans HSD2.out)
            have hgq : ¬ (p2 : Int) ≤ (q2 : Int) := by omega
            have hgt : (q2 : Int) < (p2 : Int) := by omega
            have hoe2 := Lib.hid hdr
            clear hdr
            go_wp2_with fail
            go_region
            go_wp2
            go_ret
            exact show PartEPost enc B w0 blk _ _ _ by
              unfold Sort.partitionEqual
              rw [← Hi.out, ← Hj.out, ← Hdk.out, ← AE.out, pe_break (ltC cf) a i2 j2 dk2 HIU2.out HJD2.out (by omega)]
              exact ⟨rfl, hoe2.out⟩
end
end Go.Proofs.YtgkpoopiamicnaaDoor
