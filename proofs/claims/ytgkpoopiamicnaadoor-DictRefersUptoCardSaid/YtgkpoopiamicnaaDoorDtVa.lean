/-
  Layer 40: slices.SortFunc's partialInsertionSort on a row of texts, compared by a method. Conditions: indices in the row.
-/
import Derived.Test.YtgkpoopiamicnaaDoorDtV9
import Derived.Test.YtgkpoopiamicnaaDoorDtVp
namespace Go.Proofs.YtgkpoopiamicnaaDoor
open Go.RowKit Go.Lib
section
variable {α : Type} [Inhabited α] {enc : α → ByteArray} {B : Nat} {w0 W W' : World} {blk : Nat} {d : Array α}
def PinsPost (enc : α → ByteArray) (B : Nat) (w0 : World) (blk : Nat) (r : Array α × Bool) (e : Ending) (W' : World) : Prop := e = .returned (.bool r.2) ∧ StR enc B w0 blk r.1 W'
set_option linter.unusedSimpArgs false in
set_option maxRecDepth 20000 in
set_option maxHeartbeats 16000000 in
theorem vpins (cf : α → α → Int) (g : Nat) (hC : CmpM enc cf B w0 g) (cap a b : Nat) (hab : a < b) (hb : b ≤ d.size) (hsz : d.size ≤ 1000000) (h : StR enc B w0 blk d W) :
    Calls Tryd.prog 84 #[.slice (some ⟨blk, 0, none⟩) d.size cap, .int .i64 a, .int .i64 b, ordV g] W (PinsPost enc B w0 blk (Sort.partialInsertionSort (ltC cf) d a b)) := by
  have H := Lib.hid h; have HC := Lib.hid hC
  obtain ⟨N, hN⟩ : ∃ N, d.size = N := ⟨_, rfl⟩
  have HN := Lib.hid hN
  rw [hN] at hb hsz ⊢
  clear h hN hC
  go_enter Tryd.func84, Tryd.ntmps84
  go_wp2
  go_loopw [9, 10] (fun vi vs wr => ∃ (i s : Nat) (dk : Array α), vi = .int .i64 i ∧ vs = .int .i64 s ∧ s ≤ 5 ∧ a < i ∧ i ≤ b ∧ dk.size = N ∧ StR enc B w0 blk dk wr ∧ Hid (Sort.partialIns (ltC cf) a b (5 - s) i dk = Sort.partialIns (ltC cf) a b 5 (a + 1) d)) (fun _ vs _ => (5 - RowKit.intOf vs).toNat)
  case atStart => exact ⟨a + 1, 0, d, by go_num, by go_num, by omega, by omega, by omega, HN.out, H.out, rfl⟩
  case round =>
    obtain ⟨i, s, dk, rfl, rfl, hs5, hai, hib, hsk, hst, HO⟩ := hrel
    have HSK := Lib.hid hsk; have HST := Lib.hid hst
    clear hsk hst
    by_cases hs : s < 5
    · have hsz5 : (s : Int) < 5 := by omega
      go_wp2
      go_loopw [9] (fun vi wr2 => ∃ (kx : Nat), vi = .int .i64 kx ∧ i ≤ kx ∧ kx ≤ b ∧ StR enc B w0 blk dk wr2 ∧ Hid (Sort.scanSorted (ltC cf) dk b kx = Sort.scanSorted (ltC cf) dk b i)) (fun vi _ => (b - RowKit.intOf vi).toNat)
      case atStart => exact ⟨i, rfl, Nat.le_refl _, hib, HST.out, rfl⟩
      case round =>
        obtain ⟨kx, rfl, hik, hkb, hst, HSc⟩ := hrel
        have HSX := Lib.hid hst
        have hdr := hst.drew
        clear hst
        by_cases hkb' : kx < b
        · obtain ⟨kp, rfl⟩ : ∃ x, kx = x + 1 := ⟨kx - 1, by omega⟩
          have hkz : ((kp : Int) + 1) < (b : Int) := by omega
          have hkne : (((kp : Int) + 1) == (b : Int)) = false := beq_eq_false_iff_ne.2 (by omega)
          have hkne2 : ¬ ((kp : Int) + 1) = (b : Int) := by omega
          have wk := wrapN (n := kp) (by omega)
          obtain ⟨x, hx⟩ : ∃ x, enc dk[kp + 1]! = x := ⟨_, rfl⟩
          obtain ⟨y, hy⟩ : ∃ x, enc dk[kp]! = x := ⟨_, rfl⟩
          obtain ⟨cv, hcv⟩ : ∃ x, cf dk[kp + 1]! dk[kp]! = x := ⟨_, rfl⟩
          have bi : (((kp : Nat) : Int) + 1) < (N : Int) := by omega
          have bj : (kp : Int) < (N : Int) := by omega
          have c1 : ∀ zp : InS (StR enc B w0 blk dk), zp.W.cell? ⟨blk, kp + 1, none⟩ = some (.string x) := fun zp => (zp.ok.cells HSK.out (by omega) hx).1
          have c2 : ∀ zp : InS (StR enc B w0 blk dk), zp.W.cell? ⟨blk, kp, none⟩ = some (.string y) := fun zp => (zp.ok.cells HSK.out (by omega) hy).1
          have hcall : ∀ zp : InS (StR enc B w0 blk dk), Calls Tryd.prog 33 #[wptr g, .string x, .string y] zp.W fun e W' => e = .returned (.int .i64 cv) ∧ ∃ zq : InS (StR enc B w0 blk dk), W' = zq.W := fun zp => by
            have := HC.out.in_ zp dk[kp + 1]! dk[kp]!
            rw [hx, hy, hcv] at this
            exact this
          have Hcv := Lib.hid hcv
          clear hx hy hcv
          have e0 : (((kp : Nat) : Int) + 1).toNat = kp + 1 := by omega
          have e1 : (0 : Int) ≤ (((kp : Nat) : Int) + 1) := by omega
          by_cases hlv : cv < 0
          · have HK := Lib.hid (show Sort.scanSorted (ltC cf) dk b i = kp + 1 by rw [← HSc.out, sS_stop (ltC cf) dk b (kp + 1) (Or.inr (ltC_t Hcv.out (by omega)))])
            go_wp2_with fail
            go_in (StR enc B w0 blk dk) (exact hcall _)
            try simp only [show decide (cv < 0) = true from decide_eq_true (by omega), Bool.not_true]
            have hok := Lib.hid pq.ok
            clear c1 c2 hcall hdr
            by_cases h50 : b - a < 50
            · have h50z : (b : Int) - (a : Int) < 50 := by omega
              go_wp2
              go_ret
              exact show PinsPost enc B w0 blk _ _ _ by
                unfold Sort.partialInsertionSort
                rw [← HO.out, pn_short (ltC cf) a b s i dk hs (by rw [HK.out]; omega) h50]
                exact ⟨rfl, hok.out⟩
            · have h50z : ¬ (b : Int) - (a : Int) < 50 := by omega
              have HPG := Lib.hid (pn_go (ltC cf) a b s i (kp + 1) dk hs HK.out (by omega) h50)
              obtain ⟨xa, hxa⟩ : ∃ x, enc dk[kp + 1]! = x := ⟨_, rfl⟩
              obtain ⟨ya, hya⟩ : ∃ x, enc dk[kp]! = x := ⟨_, rfl⟩
              obtain ⟨d1, f1, z1⟩ := hok.out.cells HSK.out (by omega) hxa
              obtain ⟨d2, f2, z2⟩ := hok.out.cells HSK.out (by omega) hya
              obtain ⟨u, d3⟩ := hok.out.two (i := kp + 1) (j := kp) (by rw [HSK.out]; omega) (by rw [HSK.out]; omega) (.string ya)
              have hoks := Lib.hid (hok.out.swapN HSK.out (by omega) (by omega) hxa hya)
              clear hxa hya
              go_wp2_with fail
              go_region
              clear d1 d2 d3 f1 f2
              obtain ⟨dx, hdx⟩ : ∃ x, Sort.swp dk (kp + 1) kp = x := ⟨_, rfl⟩
              rw [hdx] at hoks
              have hsx : dx.size = N := by rw [← hdx, Sort.size_swp]; exact HSK.out
              have HSXX := Lib.hid hsx; have HDX := Lib.hid hdx
              clear hsx hdx
              by_cases hka : (kp + 1) - a ≥ 2
              · have hkaz : (2 : Int) ≤ ((kp : Int) + 1) - (a : Int) := by omega
                go_wp2
                go_loopw [11] (fun vj wr3 => ∃ (j : Nat) (dj : Array α), vj = .int .i64 j ∧ j ≤ kp ∧ dj.size = N ∧ StR enc B w0 blk dj wr3 ∧ Hid (Sort.shiftDown (ltC cf) j dj = Sort.shiftDown (ltC cf) kp dx)) (fun vj _ => (RowKit.intOf vj).toNat)
                case atStart => exact ⟨kp, dx, by go_num, Nat.le_refl _, HSXX.out, hoks.out, rfl⟩
                case round =>
                  obtain ⟨j, dj, rfl, hjk, hsj, hst, HDn⟩ := hrel
                  have HSJ := Lib.hid hsj
                  have HSTJ := Lib.hid hst
                  have hdr := hst.drew
                  clear hsj hst
                  by_cases hj1 : 1 ≤ j
                  · obtain ⟨jp, rfl⟩ : ∃ x, j = x + 1 := ⟨j - 1, by omega⟩
                    have hj1z : (1 : Int) ≤ ((jp : Int) + 1) := by omega
                    have wj := wrapN (n := jp) (by omega)
                    obtain ⟨x, hx⟩ : ∃ x, enc dj[jp + 1]! = x := ⟨_, rfl⟩
                    obtain ⟨y, hy⟩ : ∃ x, enc dj[jp]! = x := ⟨_, rfl⟩
                    obtain ⟨cv, hcv⟩ : ∃ x, cf dj[jp + 1]! dj[jp]! = x := ⟨_, rfl⟩
                    have bi : (((jp : Nat) : Int) + 1) < (N : Int) := by omega
                    have bj : (jp : Int) < (N : Int) := by omega
                    have c1 : ∀ zp : InS (StR enc B w0 blk dj), zp.W.cell? ⟨blk, jp + 1, none⟩ = some (.string x) := fun zp => (zp.ok.cells HSJ.out (by omega) hx).1
                    have c2 : ∀ zp : InS (StR enc B w0 blk dj), zp.W.cell? ⟨blk, jp, none⟩ = some (.string y) := fun zp => (zp.ok.cells HSJ.out (by omega) hy).1
                    have hcall : ∀ zp : InS (StR enc B w0 blk dj), Calls Tryd.prog 33 #[wptr g, .string x, .string y] zp.W fun e W' => e = .returned (.int .i64 cv) ∧ ∃ zq : InS (StR enc B w0 blk dj), W' = zq.W := fun zp => by
                      have := HC.out.in_ zp dj[jp + 1]! dj[jp]!
                      rw [hx, hy, hcv] at this
                      exact this
                    have Hcv := Lib.hid hcv
                    clear hx hy hcv
                    have e0 : (((jp : Nat) : Int) + 1).toNat = jp + 1 := by omega
                    have e1 : (0 : Int) ≤ (((jp : Nat) : Int) + 1) := by omega
                    by_cases hlv2 : cv < 0
                    · go_wp2_with fail
                      go_in (StR enc B w0 blk dj) (exact hcall _)
                      try simp only [show decide (cv < 0) = true from decide_eq_true (by omega), Bool.not_true]
                      have hok2 := Lib.hid pq.ok
                      clear c1 c2 hcall hdr
                      obtain ⟨xa, hxa⟩ : ∃ x, enc dj[jp + 1]! = x := ⟨_, rfl⟩
                      obtain ⟨ya, hya⟩ : ∃ x, enc dj[jp]! = x := ⟨_, rfl⟩
                      obtain ⟨d1, f1, z1⟩ := hok2.out.cells HSJ.out (by omega) hxa
                      obtain ⟨d2, f2, z2⟩ := hok2.out.cells HSJ.out (by omega) hya
                      obtain ⟨u, d3⟩ := hok2.out.two (i := jp + 1) (j := jp) (by rw [HSJ.out]; omega) (by rw [HSJ.out]; omega) (.string ya)
                      have hok2s := Lib.hid (hok2.out.swapN HSJ.out (by omega) (by omega) hxa hya)
                      clear hxa hya
                      go_wp2_with fail
                      go_region
                      clear d1 d2 d3 f1 f2
                      go_wp2
                      go_roundw
                      case rel => exact ⟨jp, Sort.swp dj (jp + 1) jp, by go_num, by omega, by rw [Sort.size_swp]; exact HSJ.out, hok2s.out, by show _ = _; rw [← HDn.out, sD_go (ltC cf) (jp + 1) dj hj1 (ltC_t Hcv.out (by omega))]; rfl⟩
                      case measure => simp [RowKit.intOf] <;> omega
                    · have HD := Lib.hid (show Sort.fixDown (ltC cf) a (kp + 1) dx = dj by unfold Sort.fixDown; rw [if_pos hka, show kp + 1 - 1 = kp from rfl, ← HDn.out, sD_stop (ltC cf) (jp + 1) dj (Or.inr (ltC_f Hcv.out (by omega)))])
                      go_wp2_with fail
                      go_in (StR enc B w0 blk dj) (exact hcall _)
                      try simp only [show decide (cv < 0) = false from decide_eq_false (by omega), Bool.not_false]
                      have hok2 := Lib.hid pq.ok
                      clear c1 c2 hcall hdr
                      by_cases hbk : b - (kp + 1) ≥ 2
                      · have hbkz : (2 : Int) ≤ (b : Int) - ((kp : Int) + 1) := by omega
                        go_wp2
                        go_loopw [12] (fun vj wr4 => ∃ (ju : Nat) (du : Array α), vj = .int .i64 ju ∧ kp + 2 ≤ ju ∧ ju ≤ b ∧ du.size = N ∧ StR enc B w0 blk du wr4 ∧ Hid (Sort.shiftUp (ltC cf) b ju du = Sort.shiftUp (ltC cf) b (kp + 2) dj)) (fun vj _ => (b - RowKit.intOf vj).toNat)
                        case atStart => exact ⟨kp + 2, dj, by go_num, Nat.le_refl _, by omega, HSJ.out, hok2.out, rfl⟩
                        case round =>
                          obtain ⟨ju, du, rfl, hkj, hjb, hsu, hst, HU⟩ := hrel
                          have HSUU := Lib.hid hsu
                          have HSTU := Lib.hid hst
                          have hdr := hst.drew
                          clear hsu hst
                          by_cases hjb' : ju < b
                          · obtain ⟨jv, rfl⟩ : ∃ x, ju = x + 1 := ⟨ju - 1, by omega⟩
                            have hjz : ((jv : Int) + 1) < (b : Int) := by omega
                            have wj := wrapN (n := jv) (by omega)
                            obtain ⟨x, hx⟩ : ∃ x, enc du[jv + 1]! = x := ⟨_, rfl⟩
                            obtain ⟨y, hy⟩ : ∃ x, enc du[jv]! = x := ⟨_, rfl⟩
                            obtain ⟨cv, hcv⟩ : ∃ x, cf du[jv + 1]! du[jv]! = x := ⟨_, rfl⟩
                            have bi : (((jv : Nat) : Int) + 1) < (N : Int) := by omega
                            have bj : (jv : Int) < (N : Int) := by omega
                            have c1 : ∀ zp : InS (StR enc B w0 blk du), zp.W.cell? ⟨blk, jv + 1, none⟩ = some (.string x) := fun zp => (zp.ok.cells HSUU.out (by omega) hx).1
                            have c2 : ∀ zp : InS (StR enc B w0 blk du), zp.W.cell? ⟨blk, jv, none⟩ = some (.string y) := fun zp => (zp.ok.cells HSUU.out (by omega) hy).1
                            have hcall : ∀ zp : InS (StR enc B w0 blk du), Calls Tryd.prog 33 #[wptr g, .string x, .string y] zp.W fun e W' => e = .returned (.int .i64 cv) ∧ ∃ zq : InS (StR enc B w0 blk du), W' = zq.W := fun zp => by
                              have := HC.out.in_ zp du[jv + 1]! du[jv]!
                              rw [hx, hy, hcv] at this
                              exact this
                            have Hcv := Lib.hid hcv
                            clear hx hy hcv
                            have e0 : (((jv : Nat) : Int) + 1).toNat = jv + 1 := by omega
                            have e1 : (0 : Int) ≤ (((jv : Nat) : Int) + 1) := by omega
                            by_cases hlv3 : cv < 0
                            · go_wp2_with fail
                              go_in (StR enc B w0 blk du) (exact hcall _)
                              try simp only [show decide (cv < 0) = true from decide_eq_true (by omega), Bool.not_true]
                              have hok3 := Lib.hid pq.ok
                              clear c1 c2 hcall hdr
                              obtain ⟨xa, hxa⟩ : ∃ x, enc du[jv + 1]! = x := ⟨_, rfl⟩
                              obtain ⟨ya, hya⟩ : ∃ x, enc du[jv]! = x := ⟨_, rfl⟩
                              obtain ⟨d1, f1, z1⟩ := hok3.out.cells HSUU.out (by omega) hxa
                              obtain ⟨d2, f2, z2⟩ := hok3.out.cells HSUU.out (by omega) hya
                              obtain ⟨u, d3⟩ := hok3.out.two (i := jv + 1) (j := jv) (by rw [HSUU.out]; omega) (by rw [HSUU.out]; omega) (.string ya)
                              have hok3s := Lib.hid (hok3.out.swapN HSUU.out (by omega) (by omega) hxa hya)
                              clear hxa hya
                              go_wp2_with fail
                              go_region
                              clear d1 d2 d3 f1 f2
                              go_wp2
                              go_roundw
                              case rel => exact ⟨jv + 2, Sort.swp du (jv + 1) jv, by go_num, by omega, by omega, by rw [Sort.size_swp]; exact HSUU.out, hok3s.out, by show _ = _; rw [← HU.out, sU_go (ltC cf) b (jv + 1) du hjb' (ltC_t Hcv.out (by omega))]; rfl⟩
                              case measure => simp [RowKit.intOf] <;> omega
                            · have HPE := Lib.hid (show Sort.shiftUp (ltC cf) b (kp + 2) dj = du by rw [← HU.out, sU_stop (ltC cf) b (jv + 1) du (Or.inr (ltC_f Hcv.out (by omega)))])
                              go_wp2_with fail
                              go_in (StR enc B w0 blk du) (exact hcall _)
                              try simp only [show decide (cv < 0) = false from decide_eq_false (by omega), Bool.not_false]
                              have hok3 := Lib.hid pq.ok
                              clear c1 c2 hcall hdr
                              go_wp2
                              go_roundw
                              case rel => exact ⟨kp + 1, s + 1, du, by go_num, by go_num, by omega, by omega, by omega, HSUU.out, hok3.out, by show _ = _; rw [← HO.out, HPG.out, show Sort.swp dk (kp + 1) (kp + 1 - 1) = dx from HDX.out, HD.out]; unfold Sort.fixUp; rw [if_pos hbk, show kp + 1 + 1 = kp + 2 from rfl, HPE.out]⟩
                              case measure => simp [RowKit.intOf] <;> omega
                          · have hjz : ¬ (ju : Int) < (b : Int) := by omega
                            have HPE := Lib.hid (show Sort.shiftUp (ltC cf) b (kp + 2) dj = du by rw [← HU.out, sU_stop (ltC cf) b ju du (Or.inl hjb')])
                            clear hdr
                            go_wp2
                            go_roundw
                            case rel => exact ⟨kp + 1, s + 1, du, by go_num, by go_num, by omega, by omega, by omega, HSUU.out, HSTU.out, by show _ = _; rw [← HO.out, HPG.out, show Sort.swp dk (kp + 1) (kp + 1 - 1) = dx from HDX.out, HD.out]; unfold Sort.fixUp; rw [if_pos hbk, show kp + 1 + 1 = kp + 2 from rfl, HPE.out]⟩
                            case measure => simp [RowKit.intOf] <;> omega
                      · have hbkz : ¬ (2 : Int) ≤ (b : Int) - ((kp : Int) + 1) := by omega
                        go_wp2
                        go_roundw
                        case rel => exact ⟨kp + 1, s + 1, dj, by go_num, by go_num, by omega, by omega, by omega, HSJ.out, hok2.out, by show _ = _; rw [← HO.out, HPG.out, show Sort.swp dk (kp + 1) (kp + 1 - 1) = dx from HDX.out, HD.out]; unfold Sort.fixUp; rw [if_neg hbk]⟩
                        case measure => simp [RowKit.intOf] <;> omega
                  · obtain rfl : j = 0 := by omega
                    rw [show ((0 : Nat) : Int) = 0 from rfl]
                    have HD := Lib.hid (show Sort.fixDown (ltC cf) a (kp + 1) dx = dj by unfold Sort.fixDown; rw [if_pos hka, show kp + 1 - 1 = kp from rfl, ← HDn.out, sD_stop (ltC cf) 0 dj (Or.inl rfl)])
                    clear hdr
                    by_cases hbk : b - (kp + 1) ≥ 2
                    · have hbkz : (2 : Int) ≤ (b : Int) - ((kp : Int) + 1) := by omega
                      go_wp2
                      go_loopw [12] (fun vj wr4 => ∃ (ju : Nat) (du : Array α), vj = .int .i64 ju ∧ kp + 2 ≤ ju ∧ ju ≤ b ∧ du.size = N ∧ StR enc B w0 blk du wr4 ∧ Hid (Sort.shiftUp (ltC cf) b ju du = Sort.shiftUp (ltC cf) b (kp + 2) dj)) (fun vj _ => (b - RowKit.intOf vj).toNat)
                      case atStart => exact ⟨kp + 2, dj, by go_num, Nat.le_refl _, by omega, HSJ.out, HSTJ.out, rfl⟩
                      case round =>
                        obtain ⟨ju, du, rfl, hkj, hjb, hsu, hst, HU⟩ := hrel
                        have HSUU := Lib.hid hsu
                        have HSTU := Lib.hid hst
                        have hdr := hst.drew
                        clear hsu hst
                        by_cases hjb' : ju < b
                        · obtain ⟨jv, rfl⟩ : ∃ x, ju = x + 1 := ⟨ju - 1, by omega⟩
                          have hjz : ((jv : Int) + 1) < (b : Int) := by omega
                          have wj := wrapN (n := jv) (by omega)
                          obtain ⟨x, hx⟩ : ∃ x, enc du[jv + 1]! = x := ⟨_, rfl⟩
                          obtain ⟨y, hy⟩ : ∃ x, enc du[jv]! = x := ⟨_, rfl⟩
                          obtain ⟨cv, hcv⟩ : ∃ x, cf du[jv + 1]! du[jv]! = x := ⟨_, rfl⟩
                          have bi : (((jv : Nat) : Int) + 1) < (N : Int) := by omega
                          have bj : (jv : Int) < (N : Int) := by omega
                          have c1 : ∀ zp : InS (StR enc B w0 blk du), zp.W.cell? ⟨blk, jv + 1, none⟩ = some (.string x) := fun zp => (zp.ok.cells HSUU.out (by omega) hx).1
                          have c2 : ∀ zp : InS (StR enc B w0 blk du), zp.W.cell? ⟨blk, jv, none⟩ = some (.string y) := fun zp => (zp.ok.cells HSUU.out (by omega) hy).1
                          have hcall : ∀ zp : InS (StR enc B w0 blk du), Calls Tryd.prog 33 #[wptr g, .string x, .string y] zp.W fun e W' => e = .returned (.int .i64 cv) ∧ ∃ zq : InS (StR enc B w0 blk du), W' = zq.W := fun zp => by
                            have := HC.out.in_ zp du[jv + 1]! du[jv]!
                            rw [hx, hy, hcv] at this
                            exact this
                          have Hcv := Lib.hid hcv
                          clear hx hy hcv
                          have e0 : (((jv : Nat) : Int) + 1).toNat = jv + 1 := by omega
                          have e1 : (0 : Int) ≤ (((jv : Nat) : Int) + 1) := by omega
                          by_cases hlv3 : cv < 0
                          · go_wp2_with fail
                            go_in (StR enc B w0 blk du) (exact hcall _)
                            try simp only [show decide (cv < 0) = true from decide_eq_true (by omega), Bool.not_true]
                            have hok3 := Lib.hid pq.ok
                            clear c1 c2 hcall hdr
                            obtain ⟨xa, hxa⟩ : ∃ x, enc du[jv + 1]! = x := ⟨_, rfl⟩
                            obtain ⟨ya, hya⟩ : ∃ x, enc du[jv]! = x := ⟨_, rfl⟩
                            obtain ⟨d1, f1, z1⟩ := hok3.out.cells HSUU.out (by omega) hxa
                            obtain ⟨d2, f2, z2⟩ := hok3.out.cells HSUU.out (by omega) hya
                            obtain ⟨u, d3⟩ := hok3.out.two (i := jv + 1) (j := jv) (by rw [HSUU.out]; omega) (by rw [HSUU.out]; omega) (.string ya)
                            have hok3s := Lib.hid (hok3.out.swapN HSUU.out (by omega) (by omega) hxa hya)
                            clear hxa hya
                            go_wp2_with fail
                            go_region
                            clear d1 d2 d3 f1 f2
                            go_wp2
                            go_roundw
                            case rel => exact ⟨jv + 2, Sort.swp du (jv + 1) jv, by go_num, by omega, by omega, by rw [Sort.size_swp]; exact HSUU.out, hok3s.out, by show _ = _; rw [← HU.out, sU_go (ltC cf) b (jv + 1) du hjb' (ltC_t Hcv.out (by omega))]; rfl⟩
                            case measure => simp [RowKit.intOf] <;> omega
                          · have HPE := Lib.hid (show Sort.shiftUp (ltC cf) b (kp + 2) dj = du by rw [← HU.out, sU_stop (ltC cf) b (jv + 1) du (Or.inr (ltC_f Hcv.out (by omega)))])
                            go_wp2_with fail
                            go_in (StR enc B w0 blk du) (exact hcall _)
                            try simp only [show decide (cv < 0) = false from decide_eq_false (by omega), Bool.not_false]
                            have hok3 := Lib.hid pq.ok
                            clear c1 c2 hcall hdr
                            go_wp2
                            go_roundw
                            case rel => exact ⟨kp + 1, s + 1, du, by go_num, by go_num, by omega, by omega, by omega, HSUU.out, hok3.out, by show _ = _; rw [← HO.out, HPG.out, show Sort.swp dk (kp + 1) (kp + 1 - 1) = dx from HDX.out, HD.out]; unfold Sort.fixUp; rw [if_pos hbk, show kp + 1 + 1 = kp + 2 from rfl, HPE.out]⟩
                            case measure => simp [RowKit.intOf] <;> omega
                        · have hjz : ¬ (ju : Int) < (b : Int) := by omega
                          have HPE := Lib.hid (show Sort.shiftUp (ltC cf) b (kp + 2) dj = du by rw [← HU.out, sU_stop (ltC cf) b ju du (Or.inl hjb')])
                          clear hdr
                          go_wp2
                          go_roundw
                          case rel => exact ⟨kp + 1, s + 1, du, by go_num, by go_num, by omega, by omega, by omega, HSUU.out, HSTU.out, by show _ = _; rw [← HO.out, HPG.out, show Sort.swp dk (kp + 1) (kp + 1 - 1) = dx from HDX.out, HD.out]; unfold Sort.fixUp; rw [if_pos hbk, show kp + 1 + 1 = kp + 2 from rfl, HPE.out]⟩
                          case measure => simp [RowKit.intOf] <;> omega
                    · have hbkz : ¬ (2 : Int) ≤ (b : Int) - ((kp : Int) + 1) := by omega
                      go_wp2
                      go_roundw
                      case rel => exact ⟨kp + 1, s + 1, dj, by go_num, by go_num, by omega, by omega, by omega, HSJ.out, HSTJ.out, by show _ = _; rw [← HO.out, HPG.out, show Sort.swp dk (kp + 1) (kp + 1 - 1) = dx from HDX.out, HD.out]; unfold Sort.fixUp; rw [if_neg hbk]⟩
                      case measure => simp [RowKit.intOf] <;> omega
              · have hkaz : ¬ (2 : Int) ≤ ((kp : Int) + 1) - (a : Int) := by omega
                have HD := Lib.hid (show Sort.fixDown (ltC cf) a (kp + 1) dx = dx by unfold Sort.fixDown; rw [if_neg hka])
                by_cases hbk : b - (kp + 1) ≥ 2
                · have hbkz : (2 : Int) ≤ (b : Int) - ((kp : Int) + 1) := by omega
                  go_wp2
                  go_loopw [12] (fun vj wr4 => ∃ (ju : Nat) (du : Array α), vj = .int .i64 ju ∧ kp + 2 ≤ ju ∧ ju ≤ b ∧ du.size = N ∧ StR enc B w0 blk du wr4 ∧ Hid (Sort.shiftUp (ltC cf) b ju du = Sort.shiftUp (ltC cf) b (kp + 2) dx)) (fun vj _ => (b - RowKit.intOf vj).toNat)
                  case atStart => exact ⟨kp + 2, dx, by go_num, Nat.le_refl _, by omega, HSXX.out, hoks.out, rfl⟩
                  case round =>
                    obtain ⟨ju, du, rfl, hkj, hjb, hsu, hst, HU⟩ := hrel
                    have HSUU := Lib.hid hsu
                    have HSTU := Lib.hid hst
                    have hdr := hst.drew
                    clear hsu hst
                    by_cases hjb' : ju < b
                    · obtain ⟨jv, rfl⟩ : ∃ x, ju = x + 1 := ⟨ju - 1, by omega⟩
                      have hjz : ((jv : Int) + 1) < (b : Int) := by omega
                      have wj := wrapN (n := jv) (by omega)
                      obtain ⟨x, hx⟩ : ∃ x, enc du[jv + 1]! = x := ⟨_, rfl⟩
                      obtain ⟨y, hy⟩ : ∃ x, enc du[jv]! = x := ⟨_, rfl⟩
                      obtain ⟨cv, hcv⟩ : ∃ x, cf du[jv + 1]! du[jv]! = x := ⟨_, rfl⟩
                      have bi : (((jv : Nat) : Int) + 1) < (N : Int) := by omega
                      have bj : (jv : Int) < (N : Int) := by omega
                      have c1 : ∀ zp : InS (StR enc B w0 blk du), zp.W.cell? ⟨blk, jv + 1, none⟩ = some (.string x) := fun zp => (zp.ok.cells HSUU.out (by omega) hx).1
                      have c2 : ∀ zp : InS (StR enc B w0 blk du), zp.W.cell? ⟨blk, jv, none⟩ = some (.string y) := fun zp => (zp.ok.cells HSUU.out (by omega) hy).1
                      have hcall : ∀ zp : InS (StR enc B w0 blk du), Calls Tryd.prog 33 #[wptr g, .string x, .string y] zp.W fun e W' => e = .returned (.int .i64 cv) ∧ ∃ zq : InS (StR enc B w0 blk du), W' = zq.W := fun zp => by
                        have := HC.out.in_ zp du[jv + 1]! du[jv]!
                        rw [hx, hy, hcv] at this
                        exact this
                      have Hcv := Lib.hid hcv
                      clear hx hy hcv
                      have e0 : (((jv : Nat) : Int) + 1).toNat = jv + 1 := by omega
                      have e1 : (0 : Int) ≤ (((jv : Nat) : Int) + 1) := by omega
                      by_cases hlv3 : cv < 0
                      · go_wp2_with fail
                        go_in (StR enc B w0 blk du) (exact hcall _)
                        try simp only [show decide (cv < 0) = true from decide_eq_true (by omega), Bool.not_true]
                        have hok3 := Lib.hid pq.ok
                        clear c1 c2 hcall hdr
                        obtain ⟨xa, hxa⟩ : ∃ x, enc du[jv + 1]! = x := ⟨_, rfl⟩
                        obtain ⟨ya, hya⟩ : ∃ x, enc du[jv]! = x := ⟨_, rfl⟩
                        obtain ⟨d1, f1, z1⟩ := hok3.out.cells HSUU.out (by omega) hxa
                        obtain ⟨d2, f2, z2⟩ := hok3.out.cells HSUU.out (by omega) hya
                        obtain ⟨u, d3⟩ := hok3.out.two (i := jv + 1) (j := jv) (by rw [HSUU.out]; omega) (by rw [HSUU.out]; omega) (.string ya)
                        have hok3s := Lib.hid (hok3.out.swapN HSUU.out (by omega) (by omega) hxa hya)
                        clear hxa hya
                        go_wp2_with fail
                        go_region
                        clear d1 d2 d3 f1 f2
                        go_wp2
                        go_roundw
                        case rel => exact ⟨jv + 2, Sort.swp du (jv + 1) jv, by go_num, by omega, by omega, by rw [Sort.size_swp]; exact HSUU.out, hok3s.out, by show _ = _; rw [← HU.out, sU_go (ltC cf) b (jv + 1) du hjb' (ltC_t Hcv.out (by omega))]; rfl⟩
                        case measure => simp [RowKit.intOf] <;> omega
                      · have HPE := Lib.hid (show Sort.shiftUp (ltC cf) b (kp + 2) dx = du by rw [← HU.out, sU_stop (ltC cf) b (jv + 1) du (Or.inr (ltC_f Hcv.out (by omega)))])
                        go_wp2_with fail
                        go_in (StR enc B w0 blk du) (exact hcall _)
                        try simp only [show decide (cv < 0) = false from decide_eq_false (by omega), Bool.not_false]
                        have hok3 := Lib.hid pq.ok
                        clear c1 c2 hcall hdr
                        go_wp2
                        go_roundw
                        case rel => exact ⟨kp + 1, s + 1, du, by go_num, by go_num, by omega, by omega, by omega, HSUU.out, hok3.out, by show _ = _; rw [← HO.out, HPG.out, show Sort.swp dk (kp + 1) (kp + 1 - 1) = dx from HDX.out, HD.out]; unfold Sort.fixUp; rw [if_pos hbk, show kp + 1 + 1 = kp + 2 from rfl, HPE.out]⟩
                        case measure => simp [RowKit.intOf] <;> omega
                    · have hjz : ¬ (ju : Int) < (b : Int) := by omega
                      have HPE := Lib.hid (show Sort.shiftUp (ltC cf) b (kp + 2) dx = du by rw [← HU.out, sU_stop (ltC cf) b ju du (Or.inl hjb')])
                      clear hdr
                      go_wp2
                      go_roundw
                      case rel => exact ⟨kp + 1, s + 1, du, by go_num, by go_num, by omega, by omega, by omega, HSUU.out, HSTU.out, by show _ = _; rw [← HO.out, HPG.out, show Sort.swp dk (kp + 1) (kp + 1 - 1) = dx from HDX.out, HD.out]; unfold Sort.fixUp; rw [if_pos hbk, show kp + 1 + 1 = kp + 2 from rfl, HPE.out]⟩
                      case measure => simp [RowKit.intOf] <;> omega
                · have hbkz : ¬ (2 : Int) ≤ (b : Int) - ((kp : Int) + 1) := by omega
                  go_wp2
                  go_roundw
                  case rel => exact ⟨kp + 1, s + 1, dx, by go_num, by go_num, by omega, by omega, by omega, HSXX.out, hoks.out, by show _ = _; rw [← HO.out, HPG.out, show Sort.swp dk (kp + 1) (kp + 1 - 1) = dx from HDX.out, HD.out]; unfold Sort.fixUp; rw [if_neg hbk]⟩
                  case measure => simp [RowKit.intOf] <;> omega
          · go_wp2_with fail
            go_in (StR enc B w0 blk dk) (exact hcall _)
            try simp only [show decide (cv < 0) = false from decide_eq_false (by omega), Bool.not_false]
            have hok := Lib.hid pq.ok
            clear c1 c2 hcall hdr
            go_wp2
            go_roundw
            case rel => exact ⟨kp + 2, by go_num, by omega, by omega, hok.out, by show _ = _; rw [← HSc.out, sS_go (ltC cf) dk b (kp + 1) hkb' (ltC_f Hcv.out (by omega))]⟩
            case measure => simp [RowKit.intOf] <;> omega
        · obtain rfl : b = kx := by omega
          have hkz : ¬ (b : Int) < (b : Int) := by omega
          have HK := Lib.hid (show Sort.scanSorted (ltC cf) dk b i = b by rw [← HSc.out, sS_stop (ltC cf) dk b b (Or.inl hkb')])
          have hok := Lib.hid hdr
          clear hdr
          go_wp2_with fail
          go_region
          go_wp2
          go_ret
          exact show PinsPost enc B w0 blk _ _ _ by
            unfold Sort.partialInsertionSort
            rw [← HO.out, pn_true (ltC cf) a b s i dk hs HK.out]
            exact ⟨rfl, hok.out⟩
    · obtain rfl : s = 5 := by omega
      go_wp2
      go_ret
      exact show PinsPost enc B w0 blk _ _ _ by
        unfold Sort.partialInsertionSort
        rw [← HO.out, pn_end (ltC cf) a b i dk]
        exact ⟨rfl, HST.out⟩
end
end Go.Proofs.YtgkpoopiamicnaaDoor
