/-
  Layer 40: slices.SortFunc's partition on a row of texts, compared by a method. Conditions: indices in the row.
-/
import Derived.Test.YtgkpoopiamicnaaDoorDtV6
import Derived.Test.YtgkpoopiamicnaaDoorDtVp
namespace Go.Proofs.YtgkpoopiamicnaaDoor
open Go.RowKit Go.Lib
section
variable {α : Type} [Inhabited α] {enc : α → ByteArray} {B : Nat} {w0 W W' : World} {blk : Nat} {d : Array α}
def PartPost (enc : α → ByteArray) (B : Nat) (w0 : World) (blk : Nat) (r : Nat × Bool × Array α) (e : Ending) (W' : World) : Prop := e = .returned (.tuple #[.int .i64 r.1, .bool r.2.1]) ∧ StR enc B w0 blk r.2.2 W'
def PartEPost (enc : α → ByteArray) (B : Nat) (w0 : World) (blk : Nat) (r : Nat × Array α) (e : Ending) (W' : World) : Prop := e = .returned (.int .i64 r.1) ∧ StR enc B w0 blk r.2 W'
set_option linter.unusedSimpArgs false in
set_option maxRecDepth 20000 in
set_option maxHeartbeats 16000000 in
theorem vpart (cf : α → α → Int) (g : Nat) (hC : CmpM enc cf B w0 g) (cap a b pivot : Nat) (hap : a ≤ pivot) (hpb : pivot < b) (hb : b ≤ d.size) (hsz : d.size ≤ 1000000) (h : StR enc B w0 blk d W) :
    Calls Tryd.prog 86 #[.slice (some ⟨blk, 0, none⟩) d.size cap, .int .i64 a, .int .i64 b, .int .i64 pivot, ordV g] W (PartPost enc B w0 blk (Sort.partition (ltC cf) d a b pivot)) := by
  have H := Lib.hid h; have HC := Lib.hid hC
  obtain ⟨N, hN⟩ : ∃ N, d.size = N := ⟨_, rfl⟩
  have HN := Lib.hid hN
  rw [hN] at hb hsz ⊢
  clear h hN hC
  go_enter Tryd.func86, Tryd.ntmps86
  obtain ⟨xa, hxa⟩ : ∃ x, enc d[a]! = x := ⟨_, rfl⟩
  obtain ⟨ya, hya⟩ : ∃ x, enc d[pivot]! = x := ⟨_, rfl⟩
  obtain ⟨d1, f1, z1⟩ := H.out.cells HN.out (by omega) hxa
  obtain ⟨d2, f2, z2⟩ := H.out.cells HN.out (by omega) hya
  obtain ⟨u, d3⟩ := H.out.two (i := a) (j := pivot) (by rw [HN.out]; omega) (by rw [HN.out]; omega) (.string ya)
  have Hs := Lib.hid (H.out.swapN HN.out (by omega) (by omega) hxa hya)
  clear hxa hya
  go_wp2_with fail
  go_region
  clear d1 d2 d3 f1 f2
  obtain ⟨i1, hi⟩ : ∃ i : Nat, i = a + 1 := ⟨_, rfl⟩
  obtain ⟨j1, hj⟩ : ∃ j : Nat, j = b - 1 := ⟨_, rfl⟩
  obtain ⟨dk1, hdk⟩ : ∃ dk : Array α, dk = Sort.swp d a pivot := ⟨_, rfl⟩
  rw [← hdk] at Hs
  have hs1 : dk1.size = N := by rw [hdk, Sort.size_swp]; exact HN.out
  have hai1 : a < i1 := by omega
  have hij1 : i1 ≤ j1 + 1 := by omega
  have hjb1 : j1 < b := by omega
  have ezi : ((a : Int) + 1) = (i1 : Int) := by omega
  have ezj : ((b : Int) - 1) = (j1 : Int) := by omega
  have Hi := Lib.hid hi; have Hj := Lib.hid hj; have Hdk := Lib.hid hdk; have HS1 := Lib.hid hs1
  clear hi hj hdk hs1
  go_wp2
  go_loopw [12] (fun vi w1 => ∃ (p1 : Nat), vi = .int .i64 p1 ∧ i1 ≤ p1 ∧ p1 ≤ j1 + 1 ∧ StR enc B w0 blk dk1 w1 ∧ Hid (Sort.scanUp (fun x => (ltC cf) x dk1[a]!) dk1 j1 p1 = Sort.scanUp (fun x => (ltC cf) x dk1[a]!) dk1 j1 i1)) (fun vi _ => (j1 + 1 - RowKit.intOf vi).toNat)
  case atStart => exact ⟨i1, rfl, Nat.le_refl _, hij1, Hs.out, rfl⟩
  case round =>
    obtain ⟨p1, rfl, hii1, hpj1, hst, HSC1⟩ := hrel
    have HSU1 := Lib.hid hst
    have hdr := hst.drew
    clear hst
    by_cases hle1 : p1 ≤ j1
    · have hgu : (p1 : Int) ≤ (j1 : Int) := by omega
      obtain ⟨x, hx⟩ : ∃ x, enc dk1[p1]! = x := ⟨_, rfl⟩
      obtain ⟨y, hy⟩ : ∃ x, enc dk1[a]! = x := ⟨_, rfl⟩
      obtain ⟨cv, hcv⟩ : ∃ x, cf dk1[p1]! dk1[a]! = x := ⟨_, rfl⟩
      have bi : (p1 : Int) < (N : Int) := by omega
      have bj : (a : Int) < (N : Int) := by omega
      have c1 : ∀ zp : InS (StR enc B w0 blk dk1), zp.W.cell? ⟨blk, p1, none⟩ = some (.string x) := fun zp => (zp.ok.cells HS1.out (by omega) hx).1
      have c2 : ∀ zp : InS (StR enc B w0 blk dk1), zp.W.cell? ⟨blk, a, none⟩ = some (.string y) := fun zp => (zp.ok.cells HS1.out (by omega) hy).1
      have hcall : ∀ zp : InS (StR enc B w0 blk dk1), Calls Tryd.prog 33 #[wptr g, .string x, .string y] zp.W fun e W' => e = .returned (.int .i64 cv) ∧ ∃ zq : InS (StR enc B w0 blk dk1), W' = zq.W := fun zp => by
        have := HC.out.in_ zp dk1[p1]! dk1[a]!
        rw [hx, hy, hcv] at this
        exact this
      have Hcv := Lib.hid hcv
      clear hx hy hcv
      by_cases hlv : cv < 0
      · go_wp2_with fail
        go_in (StR enc B w0 blk dk1) (exact hcall _)
        try simp only [show decide (cv < 0) = true from decide_eq_true (by omega), Bool.not_true]
        have hok := Lib.hid pq.ok
        clear c1 c2 hcall hdr
        go_wp2
        go_roundw
        case rel => exact ⟨p1 + 1, by go_num, by omega, by omega, hok.out, Lib.hid ((sUp_go (fun x => (ltC cf) x dk1[a]!) dk1 j1 p1 hle1 (ltC_t Hcv.out (by omega))).symm.trans HSC1.out)⟩
        case measure => simp [RowKit.intOf] <;> omega
      · have HIU1 := Lib.hid (show p1 = Sort.scanUp (fun x => (ltC cf) x dk1[a]!) dk1 j1 i1 from (sUp_end (fun x => (ltC cf) x dk1[a]!) dk1 j1 p1 (Or.inr (ltC_f Hcv.out (by omega)))).symm.trans HSC1.out)
        go_wp2_with fail
        go_in (StR enc B w0 blk dk1) (exact hcall _)
        try simp only [show decide (cv < 0) = false from decide_eq_false (by omega), Bool.not_false]
        have hov1 := Lib.hid pq.ok
        clear c1 c2 hcall hdr
        go_wp2
        go_loopw [13] (fun vj w2 => ∃ (q1 : Nat), vj = .int .i64 q1 ∧ q1 ≤ j1 ∧ p1 ≤ q1 + 1 ∧ StR enc B w0 blk dk1 w2 ∧ Hid (Sort.scanDown (fun x => !(ltC cf) x dk1[a]!) dk1 p1 q1 = Sort.scanDown (fun x => !(ltC cf) x dk1[a]!) dk1 p1 j1)) (fun vj _ => (RowKit.intOf vj).toNat)
        case atStart => exact ⟨j1, rfl, Nat.le_refl _, hpj1, hov1.out, rfl⟩
        case round =>
          obtain ⟨q1, rfl, hqj1, hpq1, hst, HSD1⟩ := hrel
          have HSV1 := Lib.hid hst
          have hdr := hst.drew
          clear hst
          by_cases hlq1 : p1 ≤ q1
          · have hgq : (p1 : Int) ≤ (q1 : Int) := by omega
            obtain ⟨x, hx⟩ : ∃ x, enc dk1[q1]! = x := ⟨_, rfl⟩
            obtain ⟨y, hy⟩ : ∃ x, enc dk1[a]! = x := ⟨_, rfl⟩
            obtain ⟨cv, hcv⟩ : ∃ x, cf dk1[q1]! dk1[a]! = x := ⟨_, rfl⟩
            have bi : (q1 : Int) < (N : Int) := by omega
            have bj : (a : Int) < (N : Int) := by omega
            have c1 : ∀ zp : InS (StR enc B w0 blk dk1), zp.W.cell? ⟨blk, q1, none⟩ = some (.string x) := fun zp => (zp.ok.cells HS1.out (by omega) hx).1
            have c2 : ∀ zp : InS (StR enc B w0 blk dk1), zp.W.cell? ⟨blk, a, none⟩ = some (.string y) := fun zp => (zp.ok.cells HS1.out (by omega) hy).1
            have hcall : ∀ zp : InS (StR enc B w0 blk dk1), Calls Tryd.prog 33 #[wptr g, .string x, .string y] zp.W fun e W' => e = .returned (.int .i64 cv) ∧ ∃ zq : InS (StR enc B w0 blk dk1), W' = zq.W := fun zp => by
              have := HC.out.in_ zp dk1[q1]! dk1[a]!
              rw [hx, hy, hcv] at this
              exact this
            have Hcv := Lib.hid hcv
            clear hx hy hcv
            by_cases hlv : cv < 0
            · have HJD1 := Lib.hid (show q1 = Sort.scanDown (fun x => !(ltC cf) x dk1[a]!) dk1 p1 j1 from (sDn_end (fun x => !(ltC cf) x dk1[a]!) dk1 p1 q1 (Or.inr (by show (!(ltC cf) dk1[q1]! dk1[a]!) = false; rw [(ltC_t Hcv.out (by omega))]; rfl))).symm.trans HSD1.out)
              have hlt1 := pt_scans (ltC cf) a i1 j1 dk1 (by omega) HIU1.out HJD1.out hlq1
              have hgt : ¬ (q1 : Int) < (p1 : Int) := by omega
              have hgn : decide (q1 < p1) = false := decide_eq_false (by omega)
              have hgm : decide ((q1 : Int) < (p1 : Int)) = false := decide_eq_false (by omega)
              go_wp2_with fail
              go_in (StR enc B w0 blk dk1) (exact hcall _)
              try simp only [show decide (cv < 0) = true from decide_eq_true (by omega), Bool.not_true]
              have how1 := Lib.hid pq.ok
              clear c1 c2 hcall hdr
              obtain ⟨xa, hxa⟩ : ∃ x, enc dk1[p1]! = x := ⟨_, rfl⟩
              obtain ⟨ya, hya⟩ : ∃ x, enc dk1[q1]! = x := ⟨_, rfl⟩
              obtain ⟨d1, f1, z1⟩ := how1.out.cells HS1.out (by omega) hxa
              obtain ⟨d2, f2, z2⟩ := how1.out.cells HS1.out (by omega) hya
              obtain ⟨u, d3⟩ := how1.out.two (i := p1) (j := q1) (by rw [HS1.out]; omega) (by rw [HS1.out]; omega) (.string ya)
              have how1s := Lib.hid (how1.out.swapN HS1.out (by omega) (by omega) hxa hya)
              clear hxa hya
              go_wp2_with fail
              go_region
              clear d1 d2 d3 f1 f2
              obtain ⟨I0, hI0⟩ : ∃ I0 : Nat, I0 = p1 + 1 := ⟨_, rfl⟩
              obtain ⟨J0, hJ0⟩ : ∃ J0 : Nat, J0 = q1 - 1 := ⟨_, rfl⟩
              obtain ⟨D0, hD0⟩ : ∃ D0 : Array α, D0 = Sort.swp dk1 p1 q1 := ⟨_, rfl⟩
              have PF := Lib.hid (show Sort.partition (ltC cf) d a b pivot = ((Sort.partLoop (ltC cf) a I0 J0 D0).1, false, Sort.swp (Sort.partLoop (ltC cf) a I0 J0 D0).2 (Sort.partLoop (ltC cf) a I0 J0 D0).1 a) by
                rw [hI0, hJ0, hD0]; exact pt_first_go (ltC cf) d a b pivot Hi.out Hj.out Hdk.out HIU1.out HJD1.out (by omega))
              have HI0 := Lib.hid hI0; have HJ0 := Lib.hid hJ0; have HD0 := Lib.hid hD0
              clear hI0 hJ0 hD0
              go_wp2
              go_loopw [12, 13] (fun vi vj wr => ∃ (i2 j2 : Nat) (dk2 : Array α), vi = .int .i64 i2 ∧ vj = .int .i64 j2 ∧ a < i2 ∧ i2 ≤ j2 + 1 ∧ j2 < b ∧ dk2.size = N ∧ StR enc B w0 blk dk2 wr ∧ Hid (Sort.partLoop (ltC cf) a i2 j2 dk2 = Sort.partLoop (ltC cf) a I0 J0 D0)) (fun vi vj _ => (RowKit.intOf vj + 1 - RowKit.intOf vi).toNat)
              case atStart => exact ⟨p1 + 1, q1 - 1, Sort.swp dk1 p1 q1, by go_num, by go_num, by omega, by omega, by omega, by rw [Sort.size_swp]; exact HS1.out, how1s.out, by show _ = _; rw [HI0.out, HJ0.out, HD0.out]⟩
              case round =>
                clear hle1 hlq1 hlt1 hqj1 hpq1 hii1 hpj1 hlv hgt hgq hgu
                obtain ⟨i2, j2, dk2, rfl, rfl, hai2, hij2, hjb2, hs2, hst2, AE⟩ := hrel
                have HS2 := Lib.hid hs2; have HST2 := Lib.hid hst2
                clear hs2 hst2
                go_wp2
                go_loopw [12] (fun vi w1 => ∃ (p2 : Nat), vi = .int .i64 p2 ∧ i2 ≤ p2 ∧ p2 ≤ j2 + 1 ∧ StR enc B w0 blk dk2 w1 ∧ Hid (Sort.scanUp (fun x => (ltC cf) x dk2[a]!) dk2 j2 p2 = Sort.scanUp (fun x => (ltC cf) x dk2[a]!) dk2 j2 i2)) (fun vi _ => (j2 + 1 - RowKit.intOf vi).toNat)
                case atStart => exact ⟨i2, rfl, Nat.le_refl _, hij2, HST2.out, rfl⟩
                case round =>
                  obtain ⟨p2, rfl, hii2, hpj2, hst, HSC2⟩ := hrel
                  have HSU2 := Lib.hid hst
                  have hdr := hst.drew
                  clear hst
                  by_cases hle2 : p2 ≤ j2
                  · have hgu : (p2 : Int) ≤ (j2 : Int) := by omega
                    obtain ⟨x, hx⟩ : ∃ x, enc dk2[p2]! = x := ⟨_, rfl⟩
                    obtain ⟨y, hy⟩ : ∃ x, enc dk2[a]! = x := ⟨_, rfl⟩
                    obtain ⟨cv, hcv⟩ : ∃ x, cf dk2[p2]! dk2[a]! = x := ⟨_, rfl⟩
                    have bi : (p2 : Int) < (N : Int) := by omega
                    have bj : (a : Int) < (N : Int) := by omega
                    have c1 : ∀ zp : InS (StR enc B w0 blk dk2), zp.W.cell? ⟨blk, p2, none⟩ = some (.string x) := fun zp => (zp.ok.cells HS2.out (by omega) hx).1
                    have c2 : ∀ zp : InS (StR enc B w0 blk dk2), zp.W.cell? ⟨blk, a, none⟩ = some (.string y) := fun zp => (zp.ok.cells HS2.out (by omega) hy).1
                    have hcall : ∀ zp : InS (StR enc B w0 blk dk2), Calls Tryd.prog 33 #[wptr g, .string x, .string y] zp.W fun e W' => e = .returned (.int .i64 cv) ∧ ∃ zq : InS (StR enc B w0 blk dk2), W' = zq.W := fun zp => by
                      have := HC.out.in_ zp dk2[p2]! dk2[a]!
                      rw [hx, hy, hcv] at this
                      exact this
                    have Hcv := Lib.hid hcv
                    clear hx hy hcv
                    by_cases hlv : cv < 0
                    · go_wp2_with fail
                      go_in (StR enc B w0 blk dk2) (exact hcall _)
                      try simp only [show decide (cv < 0) = true from decide_eq_true (by omega), Bool.not_true]
                      have hok := Lib.hid pq.ok
                      clear c1 c2 hcall hdr
                      go_wp2
                      go_roundw
                      case rel => exact ⟨p2 + 1, by go_num, by omega, by omega, hok.out, Lib.hid ((sUp_go (fun x => (ltC cf) x dk2[a]!) dk2 j2 p2 hle2 (ltC_t Hcv.out (by omega))).symm.trans HSC2.out)⟩
                      case measure => simp [RowKit.intOf] <;> omega
                    · have HIU2 := Lib.hid (show p2 = Sort.scanUp (fun x => (ltC cf) x dk2[a]!) dk2 j2 i2 from (sUp_end (fun x => (ltC cf) x dk2[a]!) dk2 j2 p2 (Or.inr (ltC_f Hcv.out (by omega)))).symm.trans HSC2.out)
                      go_wp2_with fail
                      go_in (StR enc B w0 blk dk2) (exact hcall _)
                      try simp only [show decide (cv < 0) = false from decide_eq_false (by omega), Bool.not_false]
                      have hov2 := Lib.hid pq.ok
                      clear c1 c2 hcall hdr
                      go_wp2
                      go_loopw [13] (fun vj w2 => ∃ (q2 : Nat), vj = .int .i64 q2 ∧ q2 ≤ j2 ∧ p2 ≤ q2 + 1 ∧ StR enc B w0 blk dk2 w2 ∧ Hid (Sort.scanDown (fun x => !(ltC cf) x dk2[a]!) dk2 p2 q2 = Sort.scanDown (fun x => !(ltC cf) x dk2[a]!) dk2 p2 j2)) (fun vj _ => (RowKit.intOf vj).toNat)
                      case atStart => exact ⟨j2, rfl, Nat.le_refl _, hpj2, hov2.out, rfl⟩
                      case round =>
                        obtain ⟨q2, rfl, hqj2, hpq2, hst, HSD2⟩ := hrel
                        have HSV2 := Lib.hid hst
                        have hdr := hst.drew
                        clear hst
                        by_cases hlq2 : p2 ≤ q2
                        · have hgq : (p2 : Int) ≤ (q2 : Int) := by omega
                          obtain ⟨x, hx⟩ : ∃ x, enc dk2[q2]! = x := ⟨_, rfl⟩
                          obtain ⟨y, hy⟩ : ∃ x, enc dk2[a]! = x := ⟨_, rfl⟩
                          obtain ⟨cv, hcv⟩ : ∃ x, cf dk2[q2]! dk2[a]! = x := ⟨_, rfl⟩
                          have bi : (q2 : Int) < (N : Int) := by omega
                          have bj : (a : Int) < (N : Int) := by omega
                          have c1 : ∀ zp : InS (StR enc B w0 blk dk2), zp.W.cell? ⟨blk, q2, none⟩ = some (.string x) := fun zp => (zp.ok.cells HS2.out (by omega) hx).1
                          have c2 : ∀ zp : InS (StR enc B w0 blk dk2), zp.W.cell? ⟨blk, a, none⟩ = some (.string y) := fun zp => (zp.ok.cells HS2.out (by omega) hy).1
                          have hcall : ∀ zp : InS (StR enc B w0 blk dk2), Calls Tryd.prog 33 #[wptr g, .string x, .string y] zp.W fun e W' => e = .returned (.int .i64 cv) ∧ ∃ zq : InS (StR enc B w0 blk dk2), W' = zq.W := fun zp => by
                            have := HC.out.in_ zp dk2[q2]! dk2[a]!
                            rw [hx, hy, hcv] at this
                            exact this
                          have Hcv := Lib.hid hcv
                          clear hx hy hcv
                          by_cases hlv : cv < 0
                          · have HJD2 := Lib.hid (show q2 = Sort.scanDown (fun x => !(ltC cf) x dk2[a]!) dk2 p2 j2 from (sDn_end (fun x => !(ltC cf) x dk2[a]!) dk2 p2 q2 (Or.inr (by show (!(ltC cf) dk2[q2]! dk2[a]!) = false; rw [(ltC_t Hcv.out (by omega))]; rfl))).symm.trans HSD2.out)
                            have hlt2 := pt_scans (ltC cf) a i2 j2 dk2 (by omega) HIU2.out HJD2.out hlq2
                            have hgt : ¬ (q2 : Int) < (p2 : Int) := by omega
                            have hgn : decide (q2 < p2) = false := decide_eq_false (by omega)
                            have hgm : decide ((q2 : Int) < (p2 : Int)) = false := decide_eq_false (by omega)
                            go_wp2_with fail
                            go_in (StR enc B w0 blk dk2) (exact hcall _)
                            try simp only [show decide (cv < 0) = true from decide_eq_true (by omega), Bool.not_true]
                            have how2 := Lib.hid pq.ok
                            clear c1 c2 hcall hdr
                            obtain ⟨xa, hxa⟩ : ∃ x, enc dk2[p2]! = x := ⟨_, rfl⟩
                            obtain ⟨ya, hya⟩ : ∃ x, enc dk2[q2]! = x := ⟨_, rfl⟩
                            obtain ⟨d1, f1, z1⟩ := how2.out.cells HS2.out (by omega) hxa
                            obtain ⟨d2, f2, z2⟩ := how2.out.cells HS2.out (by omega) hya
                            obtain ⟨u, d3⟩ := how2.out.two (i := p2) (j := q2) (by rw [HS2.out]; omega) (by rw [HS2.out]; omega) (.string ya)
                            have how2s := Lib.hid (how2.out.swapN HS2.out (by omega) (by omega) hxa hya)
                            clear hxa hya
                            go_wp2_with fail
                            go_region
                            clear d1 d2 d3 f1 f2
                            go_wp2
                            go_roundw
                            case rel => exact ⟨p2 + 1, q2 - 1, Sort.swp dk2 p2 q2, by go_num, by go_num, by omega, by omega, by omega, by rw [Sort.size_swp]; exact HS2.out, how2s.out, by show _ = _; rw [← AE.out]; exact (pt_go (ltC cf) a i2 j2 dk2 HIU2.out HJD2.out (by omega)).symm⟩
                            case measure => simp [RowKit.intOf] <;> omega
                          · go_wp2_with fail
                            go_in (StR enc B w0 blk dk2) (exact hcall _)
                            try simp only [show decide (cv < 0) = false from decide_eq_false (by omega), Bool.not_false]
                            have hok := Lib.hid pq.ok
                            clear c1 c2 hcall hdr
                            go_wp2
                            go_roundw
                            case rel => exact ⟨q2 - 1, by go_num, by omega, by omega, hok.out, Lib.hid ((sDn_go (fun x => !(ltC cf) x dk2[a]!) dk2 p2 q2 hlq2 (by omega) (by show (!(ltC cf) dk2[q2]! dk2[a]!) = true; rw [(ltC_f Hcv.out (by omega))]; rfl)).symm.trans HSD2.out)⟩
                            case measure => simp [RowKit.intOf] <;> omega
                        · have HJD2 := Lib.hid (show q2 = Sort.scanDown (fun x => !(ltC cf) x dk2[a]!) dk2 p2 j2 from (sDn_end (fun x => !(ltC cf) x dk2[a]!) dk2 p2 q2 (Or.inl hlq2)).symm.trans HSD2.out)
                          have hgq : ¬ (p2 : Int) ≤ (q2 : Int) := by omega
                          have hgt : (q2 : Int) < (p2 : Int) := by omega
                          have hoe2 := HSV2
                          clear hdr
                          go_wp2_with fail
                          go_region
                          obtain ⟨xa, hxa⟩ : ∃ x, enc dk2[q2]! = x := ⟨_, rfl⟩
                          obtain ⟨ya, hya⟩ : ∃ x, enc dk2[a]! = x := ⟨_, rfl⟩
                          obtain ⟨d1, f1, z1⟩ := hoe2.out.cells HS2.out (by omega) hxa
                          obtain ⟨d2, f2, z2⟩ := hoe2.out.cells HS2.out (by omega) hya
                          obtain ⟨u, d3⟩ := hoe2.out.two (i := q2) (j := a) (by rw [HS2.out]; omega) (by rw [HS2.out]; omega) (.string ya)
                          have hoe2s := Lib.hid (hoe2.out.swapN HS2.out (by omega) (by omega) hxa hya)
                          clear hxa hya
                          go_wp2_with fail
                          go_region
                          clear d1 d2 d3 f1 f2
                          go_wp2
                          go_ret2
                          exact show PartPost enc B w0 blk _ _ _ by
                            rw [PF.out, ← AE.out, pt_break (ltC cf) a i2 j2 dk2 HIU2.out HJD2.out (by omega)]
                            exact ⟨rfl, hoe2s.out.drew⟩
                  · have HIU2 := Lib.hid (show p2 = Sort.scanUp (fun x => (ltC cf) x dk2[a]!) dk2 j2 i2 from (sUp_end (fun x => (ltC cf) x dk2[a]!) dk2 j2 p2 (Or.inl hle2)).symm.trans HSC2.out)
                    have hgu : ¬ (p2 : Int) ≤ (j2 : Int) := by omega
                    have hov2 := Lib.hid hdr
                    clear hdr
                    go_wp2_with fail
                    go_region
                    go_wp2
                    go_loopw [13] (fun vj w2 => ∃ (q2 : Nat), vj = .int .i64 q2 ∧ q2 ≤ j2 ∧ p2 ≤ q2 + 1 ∧ StR enc B w0 blk dk2 w2 ∧ Hid (Sort.scanDown (fun x => !(ltC cf) x dk2[a]!) dk2 p2 q2 = Sort.scanDown (fun x => !(ltC cf) x dk2[a]!) dk2 p2 j2)) (fun vj _ => (RowKit.intOf vj).toNat)
                    case atStart => exact ⟨j2, rfl, Nat.le_refl _, hpj2, hov2.out, rfl⟩
                    case round =>
                      obtain ⟨q2, rfl, hqj2, hpq2, hst, HSD2⟩ := hrel
                      have HSV2 := Lib.hid hst
                      have hdr := hst.drew
                      clear hst
                      by_cases hlq2 : p2 ≤ q2
                      · exfalso; omega
                      · have HJD2 := Lib.hid (show q2 = Sort.scanDown (fun x => !(ltC cf) x dk2[a]!) dk2 p2 j2 from (sDn_end (fun x => !(ltC cf) x dk2[a]!) dk2 p2 q2 (Or.inl hlq2)).symm.trans HSD2.out)
                        have hgq : ¬ (p2 : Int) ≤ (q2 : Int) := by omega
                        have hgt : (q2 : Int) < (p2 : Int) := by omega
                        have hoe2 := HSV2
                        clear hdr
                        go_wp2_with fail
                        go_region
                        obtain ⟨xa, hxa⟩ : ∃ x, enc dk2[q2]! = x := ⟨_, rfl⟩
                        obtain ⟨ya, hya⟩ : ∃ x, enc dk2[a]! = x := ⟨_, rfl⟩
                        obtain ⟨d1, f1, z1⟩ := hoe2.out.cells HS2.out (by omega) hxa
                        obtain ⟨d2, f2, z2⟩ := hoe2.out.cells HS2.out (by omega) hya
                        obtain ⟨u, d3⟩ := hoe2.out.two (i := q2) (j := a) (by rw [HS2.out]; omega) (by rw [HS2.out]; omega) (.string ya)
                        have hoe2s := Lib.hid (hoe2.out.swapN HS2.out (by omega) (by omega) hxa hya)
                        clear hxa hya
                        go_wp2_with fail
                        go_region
                        clear d1 d2 d3 f1 f2
                        go_wp2
                        go_ret2
                        exact show PartPost enc B w0 blk _ _ _ by
                          rw [PF.out, ← AE.out, pt_break (ltC cf) a i2 j2 dk2 HIU2.out HJD2.out (by omega)]
                          exact ⟨rfl, hoe2s.out.drew⟩
            · go_wp2_with fail
              go_in (StR enc B w0 blk dk1) (exact hcall _)
              try simp only [show decide (cv < 0) = false from decide_eq_false (by omega), Bool.not_false]
              have hok := Lib.hid pq.ok
              clear c1 c2 hcall hdr
              go_wp2
              go_roundw
              case rel => exact ⟨q1 - 1, by go_num, by omega, by omega, hok.out, Lib.hid ((sDn_go (fun x => !(ltC cf) x dk1[a]!) dk1 p1 q1 hlq1 (by omega) (by show (!(ltC cf) dk1[q1]! dk1[a]!) = true; rw [(ltC_f Hcv.out (by omega))]; rfl)).symm.trans HSD1.out)⟩
              case measure => simp [RowKit.intOf] <;> omega
          · have HJD1 := Lib.hid (show q1 = Sort.scanDown (fun x => !(ltC cf) x dk1[a]!) dk1 p1 j1 from (sDn_end (fun x => !(ltC cf) x dk1[a]!) dk1 p1 q1 (Or.inl hlq1)).symm.trans HSD1.out)
            have hgq : ¬ (p1 : Int) ≤ (q1 : Int) := by omega
            have hgt : (q1 : Int) < (p1 : Int) := by omega
            have hoe1 := HSV1
            clear hdr
            go_wp2_with fail
            go_region
            obtain ⟨xa, hxa⟩ : ∃ x, enc dk1[q1]! = x := ⟨_, rfl⟩
            obtain ⟨ya, hya⟩ : ∃ x, enc dk1[a]! = x := ⟨_, rfl⟩
            obtain ⟨d1, f1, z1⟩ := hoe1.out.cells HS1.out (by omega) hxa
            obtain ⟨d2, f2, z2⟩ := hoe1.out.cells HS1.out (by omega) hya
            obtain ⟨u, d3⟩ := hoe1.out.two (i := q1) (j := a) (by rw [HS1.out]; omega) (by rw [HS1.out]; omega) (.string ya)
            have hoe1s := Lib.hid (hoe1.out.swapN HS1.out (by omega) (by omega) hxa hya)
            clear hxa hya
            go_wp2_with fail
            go_region
            clear d1 d2 d3 f1 f2
            go_wp2
            go_ret2
            exact show PartPost enc B w0 blk _ _ _ by
              rw [pt_first_break (ltC cf) d a b pivot Hi.out Hj.out Hdk.out HIU1.out HJD1.out (by omega)]
              exact ⟨rfl, hoe1s.out.drew⟩
    · have HIU1 := Lib.hid (show p1 = Sort.scanUp (fun x => (ltC cf) x dk1[a]!) dk1 j1 i1 from (sUp_end (fun x => (ltC cf) x dk1[a]!) dk1 j1 p1 (Or.inl hle1)).symm.trans HSC1.out)
      have hgu : ¬ (p1 : Int) ≤ (j1 : Int) := by omega
      have hov1 := Lib.hid hdr
      clear hdr
      go_wp2_with fail
      go_region
      go_wp2
      go_loopw [13] (fun vj w2 => ∃ (q1 : Nat), vj = .int .i64 q1 ∧ q1 ≤ j1 ∧ p1 ≤ q1 + 1 ∧ StR enc B w0 blk dk1 w2 ∧ Hid (Sort.scanDown (fun x => !(ltC cf) x dk1[a]!) dk1 p1 q1 = Sort.scanDown (fun x => !(ltC cf) x dk1[a]!) dk1 p1 j1)) (fun vj _ => (RowKit.intOf vj).toNat)
      case atStart => exact ⟨j1, rfl, Nat.le_refl _, hpj1, hov1.out, rfl⟩
      case round =>
        obtain ⟨q1, rfl, hqj1, hpq1, hst, HSD1⟩ := hrel
        have HSV1 := Lib.hid hst
        have hdr := hst.drew
        clear hst
        by_cases hlq1 : p1 ≤ q1
        · exfalso; omega
        · have HJD1 := Lib.hid (show q1 = Sort.scanDown (fun x => !(ltC cf) x dk1[a]!) dk1 p1 j1 from (sDn_end (fun x => !(ltC cf) x dk1[a]!) dk1 p1 q1 (Or.inl hlq1)).symm.trans HSD1.out)
          have hgq : ¬ (p1 : Int) ≤ (q1 : Int) := by omega
          have hgt : (q1 : Int) < (p1 : Int) := by omega
          have hoe1 := HSV1
          clear hdr
          go_wp2_with fail
          go_region
          obtain ⟨xa, hxa⟩ : ∃ x, enc dk1[q1]! = x := ⟨_, rfl⟩
          obtain ⟨ya, hya⟩ : ∃ x, enc dk1[a]! = x := ⟨_, rfl⟩
          obtain ⟨d1, f1, z1⟩ := hoe1.out.cells HS1.out (by omega) hxa
          obtain ⟨d2, f2, z2⟩ := hoe1.out.cells HS1.out (by omega) hya
          obtain ⟨u, d3⟩ := hoe1.out.two (i := q1) (j := a) (by rw [HS1.out]; omega) (by rw [HS1.out]; omega) (.string ya)
          have hoe1s := Lib.hid (hoe1.out.swapN HS1.out (by omega) (by omega) hxa hya)
          clear hxa hya
          go_wp2_with fail
          go_region
          clear d1 d2 d3 f1 f2
          go_wp2
          go_ret2
          exact show PartPost enc B w0 blk _ _ _ by
            rw [pt_first_break (ltC cf) d a b pivot Hi.out Hj.out Hdk.out HIU1.out HJD1.out (by omega)]
            exact ⟨rfl, hoe1s.out.drew⟩
end
end Go.Proofs.YtgkpoopiamicnaaDoor
