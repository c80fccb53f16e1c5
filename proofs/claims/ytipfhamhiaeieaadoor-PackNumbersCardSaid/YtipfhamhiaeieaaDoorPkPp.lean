/-
  layer 43: the writer's pattern. Conditions: a valid pattern that can be read.
-/
import Derived.Test.YtipfhamhiaeieaaDoorPkPm
namespace Go.Proofs.YtipfhamhiaeieaaDoor
open Go.RowKit Go.Lib

theorem count_int (w : World) (base g : Nat) (k : Int) (xs : List Nat) (h : Wr w base g xs) (h0 : 0 ≤ k) (hk : k < 4294967296) (hx : xs.length + 5 ≤ CAP) :
    Calls Tryd.prog 62 #[wptr g, .int .i64 k] w fun e w' => e = .returned (.tuple #[]) ∧ Wr w' base g (xs ++ numB k.toNat) ∧ WStep g w w' := by
  have := count_any w base g k.toNat xs h (by omega) hx
  rwa [show ((k.toNat : Nat) : Int) = k by omega] at this
theorem Blk.seven {w : World} {g : Nat} {t : TypeId} {a0 a1 a2 a3 a4 a5 a6 : Value} (h : Blk w g t #[a0, a1, a2, a3, a4, a5, a6]) :
    w.cell? ⟨g, 0, none⟩ = some a0 ∧ w.cell? ⟨g, 1, none⟩ = some a1 ∧ w.cell? ⟨g, 2, none⟩ = some a2 ∧ w.cell? ⟨g, 3, none⟩ = some a3 ∧ w.cell? ⟨g, 4, none⟩ = some a4 ∧ w.cell? ⟨g, 5, none⟩ = some a5 ∧ w.cell? ⟨g, 6, none⟩ = some a6 :=
  ⟨h.cell 0, h.cell 1, h.cell 2, h.cell 3, h.cell 4, h.cell 5, h.cell 6⟩
theorem patB_sound (s : Snd) (neg : Bool) (lo hi : Int) (l : List Pt) : patB (.mk 1 s neg lo hi l) = numB 1 ++ (sndB s ++ flagB neg) := by
  rw [patB_mk, if_pos rfl]; rfl
theorem patB_many {k : Int} (h : k = 3 ∨ k = 4) (s : Snd) (neg : Bool) (lo hi : Int) (l : List Pt) : patB (.mk k s neg lo hi l) = numB k.toNat ++ (numB l.length ++ patsB l) := by
  rw [patB_mk, if_neg (by omega), if_pos h]
theorem patB_rep (s : Snd) (neg : Bool) (lo hi : Int) (l : List Pt) : patB (.mk 5 s neg lo hi l) = numB 5 ++ (numB lo.toNat ++ (numB (hi + 1).toNat ++ patsB l)) := by
  rw [patB_mk, if_neg (by decide), if_neg (by decide), if_pos rfl]; rfl
theorem patB_plain {k : Int} (h : k = 0 ∨ k = 2 ∨ k = 6) (s : Snd) (neg : Bool) (lo hi : Int) (l : List Pt) : patB (.mk k s neg lo hi l) = numB k.toNat := by
  rw [patB_mk, if_neg (by omega), if_neg (by omega), if_neg (by omega), List.append_nil]
set_option maxRecDepth 20000 in
set_option maxHeartbeats 4000000 in
theorem pattern_step (m : Nat) (hm : WritesPat m) : WritesPat (m + 1) := by
  rintro ⟨k, s, neg, lo, hi, l⟩ k' s' neg' lo' hi' A n c w base g B xs hsz h1000 hok hp hB hw hx
  rw [patC_mk] at hp
  obtain ⟨A', c', ys, he, h32, hc, hcm, hr, hps⟩ := hp
  simp only [patL, List.cons.injEq, Value.int.injEq, Value.bool.injEq, Value.slice.injEq, true_and, and_true] at he
  obtain ⟨rfl, h1, h2, rfl, rfl, rfl, rfl, rfl, rfl⟩ := he
  obtain ⟨a, b⟩ := s
  obtain ⟨a', b'⟩ := s'
  obtain rfl : a' = a := Int.natCast_inj.1 h1
  obtain rfl : b' = b := Int.natCast_inj.1 h2
  clear h1 h2
  rw [ptOk_mk, Bool.and_eq_true] at hok
  obtain ⟨hn, hks⟩ := hok
  rw [ptSize_mk] at hsz h1000 hx
  have hw0 := hw.alloc (.cells #[.int .i64 k', .int .u32 a', .int .u32 b', .bool neg', .int .i64 lo', .int .i64 hi', .slice A l.length c] 27)
  have hB0 := Blk.new w 27 #[.int .i64 k', .int .u32 a', .int .u32 b', .bool neg', .int .i64 lo', .int .i64 hi', .slice A l.length c]
  have hst := (WStep.refl g w).alloc hw.lt (.cells #[.int .i64 k', .int .u32 a', .int .u32 b', .bool neg', .int .i64 lo', .int .i64 hi', .slice A l.length c] 27)
  have hgl := hw.lt
  have hbg := hw.base_le
  have hr0 := hr.alloc (by omega) (.cells #[.int .i64 k', .int .u32 a', .int .u32 b', .bool neg', .int .i64 lo', .int .i64 hi', .slice A l.length c] 27)
  have hps0 : PatsC (w.alloc (.cells #[.int .i64 k', .int .u32 a', .int .u32 b', .bool neg', .int .i64 lo', .int .i64 hi', .slice A l.length c] 27)) B l ys := hps.keep (fun p hp' => World.cell?_alloc_lt w _ p (by omega)) _ _
  have hcases := nodeOk_cases hn
  have hk0 : 0 ≤ k' ∧ k' < 4294967296 := by omega
  have hc1 := count_int _ base g k' xs hw0 hk0.1 hk0.2 (by omega)
  have hl1 := numB_len k'.toNat
  have HW0 := Lib.hid hw0; have HB0 := Lib.hid hB0; have HST := Lib.hid hst; have HR := Lib.hid hr0; have HPS := Lib.hid hps0; have HKS := Lib.hid hks; have HM := Lib.hid hm
  clear hw0 hB0 hst hr0 hps0 hks hm hn hw hr hps
  rcases hcases with ⟨rfl, rfl, rfl, -⟩ | ⟨hk, -⟩ | hk | ⟨rfl, h1, hlo, hlo2, hhi, hhi2⟩
  · rw [patB_sound]
    go_enter Tryd.func59, Tryd.ntmps59
    go_wp2_with fail
    refine hc1.mono ?_
    rintro e w1 ⟨rfl, h1, h2⟩
    obtain ⟨c0, c1, c2, c3, c4, c5, c6⟩ := (h2.blk HW0.out HB0.out (by decide) (by omega)).seven
    have H1 := Lib.hid h1; have H2 := Lib.hid h2
    have hcs := sound_any w1 base g (a', b') _ h1 h32 (by rw [List.length_append]; omega)
    clear h1 h2 hc1
    go_wp2_with fail
    refine hcs.mono ?_
    rintro e w2 ⟨rfl, h3, h4⟩
    obtain ⟨c0, c1, c2, c3, c4, c5, c6⟩ := (h4.blk H1.out (H2.out.blk HW0.out HB0.out (by decide) (by omega)) (by decide) (by omega)).seven
    have hls := sndB_len (a', b')
    have hcf := flag_any w2 base g neg' _ h3 (by rw [List.length_append, List.length_append]; omega)
    have H3 := Lib.hid h3; have H4 := Lib.hid h4
    clear h3 h4 hcs
    go_wp2_with fail
    refine hcf.mono ?_
    rintro e w3 ⟨rfl, h5, h6⟩
    have H5 := Lib.hid h5; have H6 := Lib.hid h6
    clear h5 h6 hcf
    go_wp2
    go_end0
    exact ⟨rfl, by rw [← List.append_assoc, ← List.append_assoc]; exact H5.out, ((HST.out.trans H2.out).trans H4.out).trans H6.out⟩
  · rw [patB_plain hk]
    rcases hk with rfl | rfl | rfl
    all_goals
      go_enter Tryd.func59, Tryd.ntmps59
      go_wp2_with fail
      refine hc1.mono ?_
      rintro e w1 ⟨rfl, h1, h2⟩
      obtain ⟨c0, c1, c2, c3, c4, c5, c6⟩ := (h2.blk HW0.out HB0.out (by decide) (by omega)).seven
      have H1 := Lib.hid h1; have H2 := Lib.hid h2
      clear h1 h2 hc1
      go_wp2
      go_end0
      exact ⟨rfl, H1.out, HST.out.trans H2.out⟩
  · rw [patB_many hk]
    rcases hk with rfl | rfl
    all_goals
      go_enter Tryd.func59, Tryd.ntmps59
      go_wp2_with fail
      refine hc1.mono ?_
      rintro e w1 ⟨rfl, h1, h2⟩
      obtain ⟨c0, c1, c2, c3, c4, c5, c6⟩ := (h2.blk HW0.out HB0.out (by decide) (by omega)).seven
      have hca := allPat_any m HM.out w1 base g B A l.length c l ys _ h1 (h2.reads HW0.out HR.out hB) (HPS.out.below ((h2.below HW0.out).mono hB)) rfl hB (by omega) (by omega) HKS.out (by rw [List.length_append]; omega)
      have H1 := Lib.hid h1; have H2 := Lib.hid h2; have HCA := Lib.hid hca
      clear h1 h2 hc1 hca
      go_wp2_with fail
      refine HCA.out.mono ?_
      rintro e w2 ⟨rfl, h3, h4⟩
      have H3 := Lib.hid h3; have H4 := Lib.hid h4
      clear h3 h4
      go_wp2
      go_end0
      exact ⟨rfl, by rw [← List.append_assoc]; exact H3.out, (HST.out.trans H2.out).trans H4.out⟩
  · rw [patB_rep]
    match l, h1 with
    | [q], _ =>
      obtain ⟨ad, k1, s1, neg1, lo1, hi1, A1, n1, c1', rfl, had, hpc, e0, e1, e2, e3, e4, e5, e6⟩ := pat_cells HR.out HPS.out rfl (i := 0) (by simp)
      have hz : ad.add (0 * 7) = ad := by simp [Addr.add]
      rw [hz] at e0 e1 e2 e3 e4 e5 e6
      have hpq : PatC (w.alloc (.cells #[.int .i64 5, .int .u32 a', .int .u32 b', .bool neg', .int .i64 lo', .int .i64 hi', .slice (some ad) [q].length c] 27)) B q (patL k1 s1 neg1 lo1 hi1 (.slice A1 n1 c1')) := hpc
      have hqs : ptSizes [q] = ptSize q := by rw [ptSizes_cons, ptSizes_nil]; rfl
      have hqb : patsB [q] = patB q := by rw [patsB_cons, patsB_nil, List.append_nil]
      have hqo : ptOk q = true := ptsOk_mem (List.mem_singleton_self q) HKS.out
      rw [hqb]
      rw [hqs] at hsz h1000 hx
      have HPQ := Lib.hid hpq
      have hcell : ∀ W, Below B (w.alloc (.cells #[.int .i64 5, .int .u32 a', .int .u32 b', .bool neg', .int .i64 lo', .int .i64 hi', .slice (some ad) [q].length c] 27)) W → ∀ o, W.cell? ⟨ad.block, o, none⟩ = (w.alloc (.cells #[.int .i64 5, .int .u32 a', .int .u32 b', .bool neg', .int .i64 lo', .int .i64 hi', .slice (some ad) [q].length c] 27)).cell? ⟨ad.block, o, none⟩ := fun W hW o => hW.cell (p := ⟨ad.block, o, none⟩) had
      have hcell0 : ∀ W, Below B (w.alloc (.cells #[.int .i64 5, .int .u32 a', .int .u32 b', .bool neg', .int .i64 lo', .int .i64 hi', .slice (some ad) [q].length c] 27)) W → W.cell? ad = (w.alloc (.cells #[.int .i64 5, .int .u32 a', .int .u32 b', .bool neg', .int .i64 lo', .int .i64 hi', .slice (some ad) [q].length c] 27)).cell? ad := fun W hW => hW.cell had
      simp only [List.length_singleton] at *
      have E0 := Lib.hid e0; have E1 := Lib.hid e1; have E2 := Lib.hid e2; have E3 := Lib.hid e3; have E4 := Lib.hid e4; have E5 := Lib.hid e5; have E6 := Lib.hid e6; have HC := Lib.hid hcell; have HC0 := Lib.hid hcell0
      clear hpc hqs hqb hpq e0 e1 e2 e3 e4 e5 e6 hcell hcell0 hz
      go_enter Tryd.func59, Tryd.ntmps59
      go_wp2_with fail
      refine hc1.mono ?_
      rintro e w1 ⟨rfl, h1, h2⟩
      obtain ⟨c0, c1, c2, c3, c4, c5, c6⟩ := (h2.blk HW0.out HB0.out (by decide) (by omega)).seven
      have hc2 := count_int w1 base g lo' _ h1 hlo (by omega) (by rw [List.length_append]; omega)
      have hl2 := numB_len lo'.toNat
      have H1 := Lib.hid h1; have H2 := Lib.hid h2
      clear h1 h2 hc1
      go_wp2_with fail
      refine hc2.mono ?_
      rintro e w2 ⟨rfl, h3, h4⟩
      obtain ⟨c0, c1, c2, c3, c4, c5, c6⟩ := (h4.blk H1.out (H2.out.blk HW0.out HB0.out (by decide) (by omega)) (by decide) (by omega)).seven
      have hc3 := count_int w2 base g (hi' + 1) _ h3 (by omega) (by omega) (by rw [List.length_append, List.length_append]; omega)
      have hl3 := numB_len (hi' + 1).toNat
      have H3 := Lib.hid h3; have H4 := Lib.hid h4
      clear h3 h4 hc2
      go_wp2_with fail
      refine hc3.mono ?_
      rintro e w3 ⟨rfl, h5, h6⟩
      have hst3 := (H2.out.trans H4.out).trans h6
      have hbel := (hst3.below HW0.out).mono hB
      obtain ⟨c0, c1, c2, c3, c4, c5, c6⟩ := (hst3.blk HW0.out HB0.out (by decide) (by omega)).seven
      have f0 := (HC0.out w3 hbel).trans E0.out
      have f1 := (HC.out w3 hbel _).trans E1.out
      have f2 := (HC.out w3 hbel _).trans E2.out
      have f3 := (HC.out w3 hbel _).trans E3.out
      have f4 := (HC.out w3 hbel _).trans E4.out
      have f5 := (HC.out w3 hbel _).trans E5.out
      have f6 := (HC.out w3 hbel _).trans E6.out
      have hcp := HM.out q k1 s1 neg1 lo1 hi1 A1 n1 c1' w3 base g B _ (by omega) (by omega) hqo (HPQ.out.below hbel) hB h5 (by rw [List.length_append, List.length_append, List.length_append]; omega)
      have H5 := Lib.hid h5; have H6 := Lib.hid hst3; have HCP := Lib.hid hcp
      clear h5 h6 hc3 hst3 hbel hcp hqo
      go_wp2_with fail
      refine HCP.out.mono ?_
      rintro e w4 ⟨rfl, h7, h8⟩
      have H7 := Lib.hid h7; have H8 := Lib.hid h8
      clear h7 h8
      go_wp2
      go_end0
      exact ⟨rfl, by rw [← List.append_assoc, ← List.append_assoc, ← List.append_assoc]; exact H7.out, (HST.out.trans H6.out).trans H8.out⟩
theorem pattern_any : ∀ m, WritesPat m
  | 0 => fun p _ _ _ _ _ _ _ _ _ _ _ _ _ h => absurd h (by have := ptSize_pos p; omega)
  | m + 1 => pattern_step m (pattern_any m)
end Go.Proofs.YtipfhamhiaeieaaDoor
