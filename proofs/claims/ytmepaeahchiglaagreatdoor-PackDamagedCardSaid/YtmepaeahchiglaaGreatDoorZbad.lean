/-
  layer 43: patterns in memory; the writer's patterns. Conditions: a valid pattern that can be read.
-/
import Derived.Test.YtmepaeahchiglaaGreatDoorZbac
namespace Go.Proofs.YtmepaeahchiglaaGreatDoor
open Go.RowKit Go.Lib

abbrev patL (k : Int) (s : Snd) (neg : Bool) (lo hi : Int) (v : Value) : List Value := [.int .i64 k, .int .u32 s.1, .int .u32 s.2, .bool neg, .int .i64 lo, .int .i64 hi, v]
mutual
/-- The cells of a pattern, whose parts lie below block B. -/
def PatC (w : World) (B : Nat) : Pt → List Value → Prop
  | .mk k s neg lo hi l, cs => ∃ A c xs, cs = patL k s neg lo hi (.slice A l.length c) ∧ ok32 s ∧ l.length ≤ c ∧ c ≤ maxLen ∧ Reads w B 7 A l.length xs ∧ PatsC w B l xs
def PatsC (w : World) (B : Nat) : List Pt → List Value → Prop
  | [], xs => xs = []
  | p :: l, xs => ∃ c1 c2, xs = c1 ++ c2 ∧ PatC w B p c1 ∧ PatsC w B l c2
end
theorem patC_mk {w : World} {B : Nat} {k : Int} {s : Snd} {neg : Bool} {lo hi : Int} {l : List Pt} {cs : List Value} :
    PatC w B (.mk k s neg lo hi l) cs ↔ ∃ A c xs, cs = patL k s neg lo hi (.slice A l.length c) ∧ ok32 s ∧ l.length ≤ c ∧ c ≤ maxLen ∧ Reads w B 7 A l.length xs ∧ PatsC w B l xs := by rw [PatC]
theorem patsC_nil {w : World} {B : Nat} {xs : List Value} : PatsC w B [] xs ↔ xs = [] := by rw [PatsC]
theorem patsC_cons {w : World} {B : Nat} {p : Pt} {l : List Pt} {xs : List Value} : PatsC w B (p :: l) xs ↔ ∃ c1 c2, xs = c1 ++ c2 ∧ PatC w B p c1 ∧ PatsC w B l c2 := by rw [PatsC]
theorem PatC.len {w : World} {B : Nat} {p : Pt} {cs : List Value} (h : PatC w B p cs) : cs.length = 7 := by
  obtain ⟨k, s, neg, lo, hi, l⟩ := p
  rw [patC_mk] at h
  obtain ⟨A, c, xs, rfl, _⟩ := h; rfl
mutual
theorem PatC.keep {w w' : World} {B : Nat} (hk : ∀ p : Addr, p.block < B → w'.cell? p = w.cell? p) : ∀ (p : Pt) (cs : List Value), PatC w B p cs → PatC w' B p cs
  | .mk k s neg lo hi l, cs, h => by
    rw [patC_mk] at h ⊢
    obtain ⟨A, c, xs, h1, h2, h3, h4, h5, h6⟩ := h
    exact ⟨A, c, xs, h1, h2, h3, h4, h5.keep hk, PatsC.keep hk l xs h6⟩
theorem PatsC.keep {w w' : World} {B : Nat} (hk : ∀ p : Addr, p.block < B → w'.cell? p = w.cell? p) : ∀ (l : List Pt) (xs : List Value), PatsC w B l xs → PatsC w' B l xs
  | [], xs, h => by rw [patsC_nil] at h ⊢; exact h
  | p :: l, xs, h => by
    rw [patsC_cons] at h ⊢
    obtain ⟨c1, c2, e, h1, h2⟩ := h
    exact ⟨c1, c2, e, PatC.keep hk p c1 h1, PatsC.keep hk l c2 h2⟩
end
mutual
theorem PatC.more {w : World} {B B' : Nat} (hB : B ≤ B') : ∀ (p : Pt) (cs : List Value), PatC w B p cs → PatC w B' p cs
  | .mk k s neg lo hi l, cs, h => by
    rw [patC_mk] at h ⊢
    obtain ⟨A, c, xs, h1, h2, h3, h4, h5, h6⟩ := h
    exact ⟨A, c, xs, h1, h2, h3, h4, h5.more hB, PatsC.more hB l xs h6⟩
theorem PatsC.more {w : World} {B B' : Nat} (hB : B ≤ B') : ∀ (l : List Pt) (xs : List Value), PatsC w B l xs → PatsC w B' l xs
  | [], xs, h => by rw [patsC_nil] at h ⊢; exact h
  | p :: l, xs, h => by
    rw [patsC_cons] at h ⊢
    obtain ⟨c1, c2, e, h1, h2⟩ := h
    exact ⟨c1, c2, e, PatC.more hB p c1 h1, PatsC.more hB l c2 h2⟩
end
theorem PatC.below {w w' : World} {B : Nat} {p : Pt} {cs : List Value} (h : PatC w B p cs) (hb : Below B w w') : PatC w' B p cs := h.keep (fun _ hp => hb.cell hp) p cs
theorem PatsC.below {w w' : World} {B : Nat} {l : List Pt} {xs : List Value} (h : PatsC w B l xs) (hb : Below B w w') : PatsC w' B l xs := h.keep (fun _ hp => hb.cell hp) l xs
/-- The cells of one of several patterns. -/
theorem PatsC.at_ {w : World} {B : Nat} : ∀ (l : List Pt) (xs : List Value), PatsC w B l xs → ∀ (i : Nat) (hi : i < l.length), ∃ cs, PatC w B l[i] cs ∧ ∀ j u, cs[j]? = some u → xs[i * 7 + j]? = some u
  | [], _, _, i, hi => absurd hi (Nat.not_lt_zero i)
  | p :: l, xs, h, i, hi => by
    rw [patsC_cons] at h
    obtain ⟨c1, c2, rfl, h1, h2⟩ := h
    have hl := h1.len
    cases i with
    | zero =>
      refine ⟨c1, h1, fun j u hu => ?_⟩
      rw [Nat.zero_mul, Nat.zero_add, List.getElem?_append_left (List.getElem?_eq_some_iff.1 hu).1]
      exact hu
    | succ i =>
      obtain ⟨cs, k1, k2⟩ := PatsC.at_ l c2 h2 i (by simpa using hi)
      refine ⟨cs, k1, fun j u hu => ?_⟩
      rw [List.getElem?_append_right (by omega), show (i + 1) * 7 + j - c1.length = i * 7 + j by omega]
      exact k2 j u hu
theorem PatC.form {w : World} {B : Nat} {p : Pt} {cs : List Value} (h : PatC w B p cs) : ∃ k s neg lo hi A n c, cs = patL k s neg lo hi (.slice A n c) := by
  obtain ⟨k, s, neg, lo, hi, l⟩ := p
  rw [patC_mk] at h
  obtain ⟨A, c, xs, rfl, _⟩ := h
  exact ⟨k, s, neg, lo, hi, _, _, _, rfl⟩
/-- The seven cells of one of several patterns, as the walk asks for them. -/
theorem pat_cells {w : World} {B n : Nat} {A : Option Addr} {l : List Pt} {xs : List Value} (h : Reads w B 7 A n xs) (hp : PatsC w B l xs) (hn : l.length = n) {i : Nat} (hi : i < l.length) :
    ∃ ad k s neg lo hi' A' n' c', A = some ad ∧ ad.block < B ∧ PatC w B l[i] (patL k s neg lo hi' (.slice A' n' c')) ∧ w.cell? (ad.add (i * 7)) = some (.int .i64 k) ∧ w.cell? ⟨(ad.add (i * 7)).block, (ad.add (i * 7)).off + 1, none⟩ = some (.int .u32 s.1) ∧
      w.cell? ⟨(ad.add (i * 7)).block, (ad.add (i * 7)).off + 2, none⟩ = some (.int .u32 s.2) ∧ w.cell? ⟨(ad.add (i * 7)).block, (ad.add (i * 7)).off + 3, none⟩ = some (.bool neg) ∧
      w.cell? ⟨(ad.add (i * 7)).block, (ad.add (i * 7)).off + 4, none⟩ = some (.int .i64 lo) ∧ w.cell? ⟨(ad.add (i * 7)).block, (ad.add (i * 7)).off + 5, none⟩ = some (.int .i64 hi') ∧ w.cell? ⟨(ad.add (i * 7)).block, (ad.add (i * 7)).off + 6, none⟩ = some (.slice A' n' c') := by
  obtain ⟨ad, e, hb, hc⟩ := h.2 (by omega)
  obtain ⟨cs, h1, h2⟩ := hp.at_ l xs i hi
  obtain ⟨k, s, neg, lo, hi', A', n', c', rfl⟩ := h1.form
  refine ⟨ad, k, s, neg, lo, hi', A', n', c', e, hb, h1, hc _ _ (h2 0 _ rfl), ?_, ?_, ?_, ?_, ?_, ?_⟩
  · rw [← add_next ad (i * 7) 0]; exact hc _ _ (h2 1 _ rfl)
  · rw [← add_next ad (i * 7) 1]; exact hc _ _ (h2 2 _ rfl)
  · rw [← add_next ad (i * 7) 2]; exact hc _ _ (h2 3 _ rfl)
  · rw [← add_next ad (i * 7) 3]; exact hc _ _ (h2 4 _ rfl)
  · rw [← add_next ad (i * 7) 4]; exact hc _ _ (h2 5 _ rfl)
  · rw [← add_next ad (i * 7) 5]; exact hc _ _ (h2 6 _ rfl)
abbrev patV (k : Int) (s : Snd) (neg : Bool) (lo hi : Int) (v : Value) : Value := .agg #[.int .i64 k, .int .u32 s.1, .int .u32 s.2, .bool neg, .int .i64 lo, .int .i64 hi, v]
/-- What the writer's pattern does with patterns of at most m nodes. -/
def WritesPat (m : Nat) : Prop := ∀ (p : Pt) (k : Int) (s : Snd) (neg : Bool) (lo hi : Int) (A : Option Addr) (n c : Nat) (w : World) (base g B : Nat) (xs : List Nat), ptSize p ≤ m → ptSize p ≤ 1000 → ptOk p = true → PatC w B p (patL k s neg lo hi (.slice A n c)) → B ≤ base → Wr w base g xs → xs.length + 20 * ptSize p ≤ CAP →
  Calls Tryz.prog 139 #[wptr g, patV k s neg lo hi (.slice A n c)] w fun e w' => e = .returned (.tuple #[]) ∧ Wr w' base g (xs ++ patB p) ∧ WStep g w w'
set_option maxRecDepth 20000 in
set_option maxHeartbeats 1000000 in
theorem allPat_any (m : Nat) (hm : WritesPat m) (w : World) (base g B : Nat) (A : Option Addr) (n c : Nat) (l : List Pt) (ys : List Value) (xs : List Nat) (h : Wr w base g xs) (hr : Reads w B 7 A n ys) (hp : PatsC w B l ys) (hl : l.length = n) (hB : B ≤ base)
    (hsz : ptSizes l ≤ m) (h40 : ptSizes l ≤ 1000) (hok : ptsOk l = true) (hx : xs.length + 5 + 20 * ptSizes l ≤ CAP) :
    Calls Tryz.prog 183 #[wptr g, .slice A n c, .func (.func 139) #[wptr g] #[]] w fun e w' => e = .returned (.tuple #[]) ∧ Wr w' base g (xs ++ (numB l.length ++ patsB l)) ∧ WStep g w w' := by
  have hll := ptSizes_len l
  have hn : n < 4294967296 := by omega
  have hc1 := count_any w base g n xs h hn (by omega)
  have hl5 := numB_len n
  have HH := Lib.hid h; have HR := Lib.hid hr; have HP := Lib.hid hp; have HL := Lib.hid hl; have HOK := Lib.hid hok; have HM := Lib.hid hm
  clear h hr hp hl hok hm
  go_enter Tryz.func183, Tryz.ntmps183
  go_wp2_with fail
  refine hc1.mono ?_
  rintro e w1 ⟨rfl, h1, h2⟩
  have HW := Lib.hid h1; have HST := Lib.hid h2
  clear h1 h2 hc1
  go_wp2
  go_loopw [14] (fun i wr => ∃ k : Nat, k ≤ n ∧ i = .int .i64 k ∧ Wr wr base g (xs ++ numB n ++ patsB (l.take k)) ∧ WStep g w wr) (fun i _ => n - (RowKit.intOf i).toNat)
  case atStart => exact ⟨0, by omega, rfl, by rw [List.take_zero, patsB_nil, List.append_nil]; exact HW.out, HST.out⟩
  case round =>
    obtain ⟨k, hk, rfl, hwr, hst⟩ := hrel
    have HWR := Lib.hid hwr; have HST2 := Lib.hid hst
    clear hwr hst
    by_cases hlt : k < n
    · have hkl : k < l.length := by rw [HL.out]; exact hlt
      have hkI : (k : Int) < (n : Int) := by omega
      obtain ⟨ad, k', s, neg, lo, hi, A', n', c', rfl, had, hpc, hc0, hc1, hc2, hc3, hc4, hc5, hc6⟩ := pat_cells (HST2.out.reads HH.out HR.out hB) (HP.out.below ((HST2.out.below HH.out).mono hB)) HL.out hkl
      have hlen : (xs ++ numB n ++ patsB (l.take k)).length + 20 * ptSize l[k] ≤ CAP := by
        have := patsB_len (l.take k)
        have hsum := ptSizes_append (l.take k) (l.drop k)
        rw [List.take_append_drop, List.drop_eq_getElem_cons hkl, ptSizes_cons] at hsum
        rw [List.length_append, List.length_append]
        omega
      have hcall := HM.out l[k] k' s neg lo hi A' n' c' (wr.alloc (.cells #[.int .i64 k', .int .u32 s.1, .int .u32 s.2, .bool neg, .int .i64 lo, .int .i64 hi, .slice A' n' c'] 58)) base g B _ (Nat.le_trans (ptSize_mem (List.getElem_mem hkl)) hsz) (Nat.le_trans (ptSize_mem (List.getElem_mem hkl)) h40) (ptsOk_mem (List.getElem_mem hkl) HOK.out) (hpc.keep (fun p hp' => World.cell?_alloc_lt wr _ p (by have := HWR.out.lt; have := HWR.out.base_le; omega)) _ _) hB (HWR.out.alloc _) hlen
      have hts : patsB (l.take (k + 1)) = patsB (l.take k) ++ patB l[k] := by rw [patsB_flat, patsB_flat, take_flat patB l k hkl]
      have HTS := Lib.hid hts; have HCALL := Lib.hid hcall
      clear hts hcall hpc hlen
      generalize patB l[k] = pb at *
      go_wp2_with fail
      refine HCALL.out.mono ?_
      rintro e w2 ⟨rfl, h3, h4⟩
      have H3 := Lib.hid h3; have H4 := Lib.hid h4
      clear h3 h4
      go_wp2
      go_roundw
      case rel => exact ⟨k + 1, by omega, by go_num, by rw [HTS.out, ← List.append_assoc]; exact H3.out, (HST2.out.alloc HWR.out.lt _).trans H4.out⟩
      case measure => simp [RowKit.intOf]; omega
    · obtain rfl : k = n := by omega
      go_wp2
      go_end0
      refine ⟨rfl, ?_, HST2.out⟩
      have := HWR.out
      rw [List.take_of_length_le (by rw [HL.out]; exact Nat.le_refl _), List.append_assoc] at this
      rw [HL.out]; exact this
end Go.Proofs.YtmepaeahchiglaaGreatDoor
namespace Go.Proofs.YtmepaeahchiglaaGreatDoor
open Go.RowKit Go.Lib

theorem count_int (w : World) (base g : Nat) (k : Int) (xs : List Nat) (h : Wr w base g xs) (h0 : 0 ≤ k) (hk : k < 4294967296) (hx : xs.length + 5 ≤ CAP) :
    Calls Tryz.prog 93 #[wptr g, .int .i64 k] w fun e w' => e = .returned (.tuple #[]) ∧ Wr w' base g (xs ++ numB k.toNat) ∧ WStep g w w' := by
  have := count_any w base g k.toNat xs h (by omega) hx
  rwa [show ((k.toNat : Nat) : Int) = k by omega] at this
theorem Blk.seven {w : World} {g : Nat} {t : TypeId} {a0 a1 a2 a3 a4 a5 a6 : Value} (h : Blk w g t #[a0, a1, a2, a3, a4, a5, a6]) :
    w.cell? ⟨g, 0, none⟩ = some a0 ∧ w.cell? ⟨g, 1, none⟩ = some a1 ∧ w.cell? ⟨g, 2, none⟩ = some a2 ∧ w.cell? ⟨g, 3, none⟩ = some a3 ∧ w.cell? ⟨g, 4, none⟩ = some a4 ∧ w.cell? ⟨g, 5, none⟩ = some a5 ∧ w.cell? ⟨g, 6, none⟩ = some a6 :=
  ⟨h.cell 0, h.cell 1, h.cell 2, h.cell 3, h.cell 4, h.cell 5, h.cell 6⟩
theorem patB_sound (s : Snd) (neg : Bool) (lo hi : Int) (l : List Pt) : patB (.mk 1 s neg lo hi l) = numB 1 ++ (sndB s ++ flagB neg) := by
  rw [patB_mk, if_pos rfl]; rfl
theorem patB_many {k : Int} (h : k = 3 ∨ k = 4) (s : Snd) (neg : Bool) (lo hi : Int) (l : List Pt) : patB (.mk k s neg lo hi l) = numB k.toNat ++ (numB l.length ++ patsB l) := by
  rw [patB_mk, if_neg (by omega), if_pos h]
theorem patB_rep (s : Snd) (neg : Bool) (lo hi : Int) (l : List Pt) : patB (.mk 5 s neg lo hi l) = numB 5 ++ (numB lo.toNat ++ (numB (hi + 1).toNat ++ patsB l)) := by
  rw [patB_mk, if_neg (by decide), if_neg (by decide), if_pos rfl]; rfl
theorem patB_plain {k : Int} (h : k = 0 ∨ k = 2 ∨ k = 6) (s : Snd) (neg : Bool) (lo hi : Int) (l : List Pt) : patB (.mk k s neg lo hi l) = numB k.toNat := by
  rw [patB_mk, if_neg (by omega), if_neg (by omega), if_neg (by omega), List.append_nil]
set_option maxRecDepth 20000 in
set_option maxHeartbeats 4000000 in
theorem pattern_step (m : Nat) (hm : WritesPat m) : WritesPat (m + 1) := by
  rintro ⟨k, s, neg, lo, hi, l⟩ k' s' neg' lo' hi' A n c w base g B xs hsz h1000 hok hp hB hw hx
  rw [patC_mk] at hp
  obtain ⟨A', c', ys, he, h32, hc, hcm, hr, hps⟩ := hp
  simp only [patL, List.cons.injEq, Value.int.injEq, Value.bool.injEq, Value.slice.injEq, true_and, and_true] at he
  obtain ⟨rfl, h1, h2, rfl, rfl, rfl, rfl, rfl, rfl⟩ := he
  obtain ⟨a, b⟩ := s
  obtain ⟨a', b'⟩ := s'
  obtain rfl : a' = a := Int.natCast_inj.1 h1
  obtain rfl : b' = b := Int.natCast_inj.1 h2
  clear h1 h2
  rw [ptOk_mk, Bool.and_eq_true] at hok
  obtain ⟨hn, hks⟩ := hok
  rw [ptSize_mk] at hsz h1000 hx
  have hw0 := hw.alloc (.cells #[.int .i64 k', .int .u32 a', .int .u32 b', .bool neg', .int .i64 lo', .int .i64 hi', .slice A l.length c] 58)
  have hB0 := Blk.new w 58 #[.int .i64 k', .int .u32 a', .int .u32 b', .bool neg', .int .i64 lo', .int .i64 hi', .slice A l.length c]
  have hst := (WStep.refl g w).alloc hw.lt (.cells #[.int .i64 k', .int .u32 a', .int .u32 b', .bool neg', .int .i64 lo', .int .i64 hi', .slice A l.length c] 58)
  have hgl := hw.lt
  have hbg := hw.base_le
  have hr0 := hr.alloc (by omega) (.cells #[.int .i64 k', .int .u32 a', .int .u32 b', .bool neg', .int .i64 lo', .int .i64 hi', .slice A l.length c] 58)
  have hps0 : PatsC (w.alloc (.cells #[.int .i64 k', .int .u32 a', .int .u32 b', .bool neg', .int .i64 lo', .int .i64 hi', .slice A l.length c] 58)) B l ys := hps.keep (fun p hp' => World.cell?_alloc_lt w _ p (by omega)) _ _
  have hcases := nodeOk_cases hn
  have hk0 : 0 ≤ k' ∧ k' < 4294967296 := by omega
  have hc1 := count_int _ base g k' xs hw0 hk0.1 hk0.2 (by omega)
  have hl1 := numB_len k'.toNat
  have HW0 := Lib.hid hw0; have HB0 := Lib.hid hB0; have HST := Lib.hid hst; have HR := Lib.hid hr0; have HPS := Lib.hid hps0; have HKS := Lib.hid hks; have HM := Lib.hid hm
  clear hw0 hB0 hst hr0 hps0 hks hm hn hw hr hps
  rcases hcases with ⟨rfl, rfl, rfl, -⟩ | ⟨hk, -⟩ | hk | ⟨rfl, h1, hlo, hlo2, hhi, hhi2⟩
  · rw [patB_sound]
    go_enter Tryz.func139, Tryz.ntmps139
    go_wp2_with fail
    refine hc1.mono ?_
    rintro e w1 ⟨rfl, h1, h2⟩
    obtain ⟨c0, c1, c2, c3, c4, c5, c6⟩ := (h2.blk HW0.out HB0.out (by decide) (by omega)).seven
    have H1 := Lib.hid h1; have H2 := Lib.hid h2
    have hcs := sound_any w1 base g (a', b') _ h1 h32 (by rw [List.length_append]; omega)
    clear h1 h2 hc1
    go_wp2_with fail
    refine hcs.mono ?_
    rintro e w2 ⟨rfl, h3, h4⟩
    obtain ⟨c0, c1, c2, c3, c4, c5, c6⟩ := (h4.blk H1.out (H2.out.blk HW0.out HB0.out (by decide) (by omega)) (by decide) (by omega)).seven
    have hls := sndB_len (a', b')
    have hcf := flag_any w2 base g neg' _ h3 (by rw [List.length_append, List.length_append]; omega)
    have H3 := Lib.hid h3; have H4 := Lib.hid h4
    clear h3 h4 hcs
    go_wp2_with fail
    refine hcf.mono ?_
    rintro e w3 ⟨rfl, h5, h6⟩
    have H5 := Lib.hid h5; have H6 := Lib.hid h6
    clear h5 h6 hcf
    go_wp2
    go_end0
    exact ⟨rfl, by rw [← List.append_assoc, ← List.append_assoc]; exact H5.out, ((HST.out.trans H2.out).trans H4.out).trans H6.out⟩
  · rw [patB_plain hk]
    rcases hk with rfl | rfl | rfl
    all_goals
      go_enter Tryz.func139, Tryz.ntmps139
      go_wp2_with fail
      refine hc1.mono ?_
      rintro e w1 ⟨rfl, h1, h2⟩
      obtain ⟨c0, c1, c2, c3, c4, c5, c6⟩ := (h2.blk HW0.out HB0.out (by decide) (by omega)).seven
      have H1 := Lib.hid h1; have H2 := Lib.hid h2
      clear h1 h2 hc1
      go_wp2
      go_end0
      exact ⟨rfl, H1.out, HST.out.trans H2.out⟩
  · rw [patB_many hk]
    rcases hk with rfl | rfl
    all_goals
      go_enter Tryz.func139, Tryz.ntmps139
      go_wp2_with fail
      refine hc1.mono ?_
      rintro e w1 ⟨rfl, h1, h2⟩
      obtain ⟨c0, c1, c2, c3, c4, c5, c6⟩ := (h2.blk HW0.out HB0.out (by decide) (by omega)).seven
      have hca := allPat_any m HM.out w1 base g B A l.length c l ys _ h1 (h2.reads HW0.out HR.out hB) (HPS.out.below ((h2.below HW0.out).mono hB)) rfl hB (by omega) (by omega) HKS.out (by rw [List.length_append]; omega)
      have H1 := Lib.hid h1; have H2 := Lib.hid h2; have HCA := Lib.hid hca
      clear h1 h2 hc1 hca
      go_wp2_with fail
      refine HCA.out.mono ?_
      rintro e w2 ⟨rfl, h3, h4⟩
      have H3 := Lib.hid h3; have H4 := Lib.hid h4
      clear h3 h4
      go_wp2
      go_end0
      exact ⟨rfl, by rw [← List.append_assoc]; exact H3.out, (HST.out.trans H2.out).trans H4.out⟩
  · rw [patB_rep]
    match l, h1 with
    | [q], _ =>
      obtain ⟨ad, k1, s1, neg1, lo1, hi1, A1, n1, c1', rfl, had, hpc, e0, e1, e2, e3, e4, e5, e6⟩ := pat_cells HR.out HPS.out rfl (i := 0) (by simp)
      have hz : ad.add (0 * 7) = ad := by simp [Addr.add]
      rw [hz] at e0 e1 e2 e3 e4 e5 e6
      have hpq : PatC (w.alloc (.cells #[.int .i64 5, .int .u32 a', .int .u32 b', .bool neg', .int .i64 lo', .int .i64 hi', .slice (some ad) [q].length c] 58)) B q (patL k1 s1 neg1 lo1 hi1 (.slice A1 n1 c1')) := hpc
      have hqs : ptSizes [q] = ptSize q := by rw [ptSizes_cons, ptSizes_nil]; rfl
      have hqb : patsB [q] = patB q := by rw [patsB_cons, patsB_nil, List.append_nil]
      have hqo : ptOk q = true := ptsOk_mem (List.mem_singleton_self q) HKS.out
      rw [hqb]
      rw [hqs] at hsz h1000 hx
      have HPQ := Lib.hid hpq
      have hcell : ∀ W, Below B (w.alloc (.cells #[.int .i64 5, .int .u32 a', .int .u32 b', .bool neg', .int .i64 lo', .int .i64 hi', .slice (some ad) [q].length c] 58)) W → ∀ o, W.cell? ⟨ad.block, o, none⟩ = (w.alloc (.cells #[.int .i64 5, .int .u32 a', .int .u32 b', .bool neg', .int .i64 lo', .int .i64 hi', .slice (some ad) [q].length c] 58)).cell? ⟨ad.block, o, none⟩ := fun W hW o => hW.cell (p := ⟨ad.block, o, none⟩) had
      have hcell0 : ∀ W, Below B (w.alloc (.cells #[.int .i64 5, .int .u32 a', .int .u32 b', .bool neg', .int .i64 lo', .int .i64 hi', .slice (some ad) [q].length c] 58)) W → W.cell? ad = (w.alloc (.cells #[.int .i64 5, .int .u32 a', .int .u32 b', .bool neg', .int .i64 lo', .int .i64 hi', .slice (some ad) [q].length c] 58)).cell? ad := fun W hW => hW.cell had
      simp only [List.length_singleton] at *
      have E0 := Lib.hid e0; have E1 := Lib.hid e1; have E2 := Lib.hid e2; have E3 := Lib.hid e3; have E4 := Lib.hid e4; have E5 := Lib.hid e5; have E6 := Lib.hid e6; have HC := Lib.hid hcell; have HC0 := Lib.hid hcell0
      clear hpc hqs hqb hpq e0 e1 e2 e3 e4 e5 e6 hcell hcell0 hz
      go_enter Tryz.func139, Tryz.ntmps139
      go_wp2_with fail
      refine hc1.mono ?_
      rintro e w1 ⟨rfl, h1, h2⟩
      obtain ⟨c0, c1, c2, c3, c4, c5, c6⟩ := (h2.blk HW0.out HB0.out (by decide) (by omega)).seven
      have hc2 := count_int w1 base g lo' _ h1 hlo (by omega) (by rw [List.length_append]; omega)
      have hl2 := numB_len lo'.toNat
      have H1 := Lib.hid h1; have H2 := Lib.hid h2
      clear h1 h2 hc1
      go_wp2_with fail
      refine hc2.mono ?_
      rintro e w2 ⟨rfl, h3, h4⟩
      obtain ⟨c0, c1, c2, c3, c4, c5, c6⟩ := (h4.blk H1.out (H2.out.blk HW0.out HB0.out (by decide) (by omega)) (by decide) (by omega)).seven
      have hc3 := count_int w2 base g (hi' + 1) _ h3 (by omega) (by omega) (by rw [List.length_append, List.length_append]; omega)
      have hl3 := numB_len (hi' + 1).toNat
      have H3 := Lib.hid h3; have H4 := Lib.hid h4
      clear h3 h4 hc2
      go_wp2_with fail
      refine hc3.mono ?_
      rintro e w3 ⟨rfl, h5, h6⟩
      have hst3 := (H2.out.trans H4.out).trans h6
      have hbel := (hst3.below HW0.out).mono hB
      obtain ⟨c0, c1, c2, c3, c4, c5, c6⟩ := (hst3.blk HW0.out HB0.out (by decide) (by omega)).seven
      have f0 := (HC0.out w3 hbel).trans E0.out
      have f1 := (HC.out w3 hbel _).trans E1.out
      have f2 := (HC.out w3 hbel _).trans E2.out
      have f3 := (HC.out w3 hbel _).trans E3.out
      have f4 := (HC.out w3 hbel _).trans E4.out
      have f5 := (HC.out w3 hbel _).trans E5.out
      have f6 := (HC.out w3 hbel _).trans E6.out
      have hcp := HM.out q k1 s1 neg1 lo1 hi1 A1 n1 c1' w3 base g B _ (by omega) (by omega) hqo (HPQ.out.below hbel) hB h5 (by rw [List.length_append, List.length_append, List.length_append]; omega)
      have H5 := Lib.hid h5; have H6 := Lib.hid hst3; have HCP := Lib.hid hcp
      clear h5 h6 hc3 hst3 hbel hcp hqo
      go_wp2_with fail
      refine HCP.out.mono ?_
      rintro e w4 ⟨rfl, h7, h8⟩
      have H7 := Lib.hid h7; have H8 := Lib.hid h8
      clear h7 h8
      go_wp2
      go_end0
      exact ⟨rfl, by rw [← List.append_assoc, ← List.append_assoc, ← List.append_assoc]; exact H7.out, (HST.out.trans H6.out).trans H8.out⟩
theorem pattern_any : ∀ m, WritesPat m
  | 0 => fun p _ _ _ _ _ _ _ _ _ _ _ _ _ h => absurd h (by have := ptSize_pos p; omega)
  | m + 1 => pattern_step m (pattern_any m)
end Go.Proofs.YtmepaeahchiglaaGreatDoor
namespace Go.Proofs.YtmepaeahchiglaaGreatDoor
open Go.RowKit Go.Lib

/-- A sound by which a law replaces something: From, Clear, Set, Take, Of. -/
structure Ot where
  src : Int
  clear : Nat
  set : Snd
  take : Nat
  ref : Int
instance : Inhabited Ot := ⟨⟨0, 0, (0, 0), 0, 0⟩⟩
abbrev outC (x : Ot) : List Value := [.int .i64 x.src, .int .u32 x.clear, .int .u32 x.set.1, .int .u32 x.set.2, .int .u32 x.take, .int .i64 x.ref]
abbrev outV (x : Ot) : Value := .agg #[.int .i64 x.src, .int .u32 x.clear, .int .u32 x.set.1, .int .u32 x.set.2, .int .u32 x.take, .int .i64 x.ref]
def outB (x : Ot) : List Nat := numB (x.src + 1).toNat ++ (numB x.clear ++ (sndB x.set ++ (numB x.take ++ numB x.ref.toNat)))
/-- What can be written. -/
def ok32O (x : Ot) : Prop := (-1 ≤ x.src ∧ x.src < 4294967295) ∧ is32 x.clear ∧ ok32 x.set ∧ is32 x.take ∧ (0 ≤ x.ref ∧ x.ref < 4294967296)
theorem outB_len (x : Ot) : (outB x).length ≤ 30 := by
  unfold outB
  rw [List.length_append, List.length_append, List.length_append, List.length_append]
  have := numB_len (x.src + 1).toNat
  have := numB_len x.clear
  have := sndB_len x.set
  have := numB_len x.take
  have := numB_len x.ref.toNat
  omega
theorem Blk.six {w : World} {g : Nat} {t : TypeId} {a0 a1 a2 a3 a4 a5 : Value} (h : Blk w g t #[a0, a1, a2, a3, a4, a5]) :
    w.cell? ⟨g, 0, none⟩ = some a0 ∧ w.cell? ⟨g, 1, none⟩ = some a1 ∧ w.cell? ⟨g, 2, none⟩ = some a2 ∧ w.cell? ⟨g, 3, none⟩ = some a3 ∧ w.cell? ⟨g, 4, none⟩ = some a4 ∧ w.cell? ⟨g, 5, none⟩ = some a5 :=
  ⟨h.cell 0, h.cell 1, h.cell 2, h.cell 3, h.cell 4, h.cell 5⟩
set_option maxRecDepth 20000 in
set_option maxHeartbeats 2000000 in
theorem out_any (w : World) (base g h0 : Nat) (x : Ot) (xs : List Nat) (h : Wr w base g xs) (hh : Blk w h0 142 #[wptr g]) (hok : ok32O x) (hx : xs.length + 30 ≤ CAP) :
    Calls Tryz.prog 141 #[outV x, wptr h0] w fun e w' => e = .returned (.tuple #[]) ∧ Wr w' base g (xs ++ outB x) ∧ WStep g w w' := by
  obtain ⟨⟨a1, a2⟩, hcl, hset, htk, r1, r2⟩ := hok
  obtain ⟨src, clear, set, take, ref⟩ := x
  simp only at *
  have hgh : h0 ≠ g := fun e => by
    subst e
    obtain ⟨v, b1, _⟩ := h
    exact Blk.ne_ b1 hh (by decide) rfl
  have hw0 := h.alloc (.cells #[.int .i64 src, .int .u32 clear, .int .u32 set.1, .int .u32 set.2, .int .u32 take, .int .i64 ref] 90)
  have hB0 := Blk.new w 90 #[.int .i64 src, .int .u32 clear, .int .u32 set.1, .int .u32 set.2, .int .u32 take, .int .i64 ref]
  have hh0 := hh.alloc (.cells #[.int .i64 src, .int .u32 clear, .int .u32 set.1, .int .u32 set.2, .int .u32 take, .int .i64 ref] 90)
  have hst := (WStep.refl g w).alloc h.lt (.cells #[.int .i64 src, .int .u32 clear, .int .u32 set.1, .int .u32 set.2, .int .u32 take, .int .i64 ref] 90)
  have hgl := h.lt
  have hhl := hh.lt
  have hhc := hh0.cell 0
  simp only [List.getElem?_toArray, List.getElem?_cons_zero] at hhc
  have hl1 := numB_len (src + 1).toNat
  have hl2 := numB_len clear
  have hl3 := sndB_len set
  have hl4 := numB_len take
  have hc1 := count_int _ base g (src + 1) xs hw0 (by omega) (by omega) (by omega)
  have HW0 := Lib.hid hw0; have HB0 := Lib.hid hB0; have HST := Lib.hid hst; have HH := Lib.hid hh0
  clear hw0 hB0 hst hh0 h hh
  show Calls _ _ _ _ fun e w' => e = .returned (.tuple #[]) ∧ Wr w' base g (xs ++ (numB (src + 1).toNat ++ (numB clear ++ (sndB set ++ (numB take ++ numB ref.toNat))))) ∧ WStep g w w'
  go_enter Tryz.func141, Tryz.ntmps141
  go_wp2_with fail
  refine hc1.mono ?_
  rintro e w1 ⟨rfl, h1, h2⟩
  have hb1 := h2.blk HW0.out HB0.out (by decide) (by omega)
  have hh1 := h2.blk HW0.out HH.out (by decide) hgh
  obtain ⟨c0, c1, c2, c3, c4, c5⟩ := hb1.six
  have hhc := hh1.cell 0
  simp only [List.getElem?_toArray, List.getElem?_cons_zero] at hhc
  have hc2 := num_any w1 base g clear _ h1 hcl (by rw [List.length_append]; omega)
  have H1 := Lib.hid h1; have H2 := Lib.hid h2; have HB1 := Lib.hid hb1; have HH1 := Lib.hid hh1
  clear h1 h2 hb1 hh1 hc1
  go_wp2_with fail
  refine hc2.mono ?_
  rintro e w2 ⟨rfl, h1, h2⟩
  have hb1 := h2.blk H1.out HB1.out (by decide) (by omega)
  have hh1 := h2.blk H1.out HH1.out (by decide) hgh
  obtain ⟨c0, c1, c2, c3, c4, c5⟩ := hb1.six
  have hhc := hh1.cell 0
  simp only [List.getElem?_toArray, List.getElem?_cons_zero] at hhc
  have hc2 := sound_any w2 base g set _ h1 hset (by rw [List.length_append, List.length_append]; omega)
  have H3 := Lib.hid h1; have H4 := Lib.hid h2; have HB2 := Lib.hid hb1; have HH2 := Lib.hid hh1
  clear h1 h2 hb1 hh1
  go_wp2_with fail
  refine hc2.mono ?_
  rintro e w3 ⟨rfl, h1, h2⟩
  have hb1 := h2.blk H3.out HB2.out (by decide) (by omega)
  have hh1 := h2.blk H3.out HH2.out (by decide) hgh
  obtain ⟨c0, c1, c2, c3, c4, c5⟩ := hb1.six
  have hhc := hh1.cell 0
  simp only [List.getElem?_toArray, List.getElem?_cons_zero] at hhc
  have hc2 := num_any w3 base g take _ h1 htk (by rw [List.length_append, List.length_append, List.length_append]; omega)
  have H5 := Lib.hid h1; have H6 := Lib.hid h2; have HB3 := Lib.hid hb1; have HH3 := Lib.hid hh1
  clear h1 h2 hb1 hh1
  go_wp2_with fail
  refine hc2.mono ?_
  rintro e w4 ⟨rfl, h1, h2⟩
  have hb1 := h2.blk H5.out HB3.out (by decide) (by omega)
  have hh1 := h2.blk H5.out HH3.out (by decide) hgh
  obtain ⟨c0, c1, c2, c3, c4, c5⟩ := hb1.six
  have hhc := hh1.cell 0
  simp only [List.getElem?_toArray, List.getElem?_cons_zero] at hhc
  have hc2 := count_int w4 base g ref _ h1 r1 r2 (by rw [List.length_append, List.length_append, List.length_append, List.length_append]; omega)
  have H7 := Lib.hid h1; have H8 := Lib.hid h2
  clear h1 h2 hb1 hh1
  go_wp2_with fail
  refine hc2.mono ?_
  rintro e w5 ⟨rfl, h1, h2⟩
  have H9 := Lib.hid h1; have H10 := Lib.hid h2
  clear h1 h2
  go_wp2
  go_end0
  exact ⟨rfl, by rw [← List.append_assoc, ← List.append_assoc, ← List.append_assoc, ← List.append_assoc]; exact H9.out, ((((HST.out.trans H2.out).trans H4.out).trans H6.out).trans H8.out).trans H10.out⟩
theorem out_cells {w : World} {B n i : Nat} {A : Option Addr} {l : List Ot} (h : Reads w B 6 A n (l.flatMap outC)) (hi : i < l.length) :
    ∃ ad, A = some ad ∧ ad.block < B ∧ w.cell? (ad.add (i * 6)) = some (.int .i64 l[i].src) ∧ w.cell? ⟨(ad.add (i * 6)).block, (ad.add (i * 6)).off + 1, none⟩ = some (.int .u32 l[i].clear) ∧ w.cell? ⟨(ad.add (i * 6)).block, (ad.add (i * 6)).off + 2, none⟩ = some (.int .u32 l[i].set.1) ∧
      w.cell? ⟨(ad.add (i * 6)).block, (ad.add (i * 6)).off + 3, none⟩ = some (.int .u32 l[i].set.2) ∧ w.cell? ⟨(ad.add (i * 6)).block, (ad.add (i * 6)).off + 4, none⟩ = some (.int .u32 l[i].take) ∧ w.cell? ⟨(ad.add (i * 6)).block, (ad.add (i * 6)).off + 5, none⟩ = some (.int .i64 l[i].ref) := by
  obtain ⟨ad, e, hb, hc⟩ := h.row (fun _ => rfl) (by decide) hi
  exact ⟨ad, e, hb, hc 0 _ rfl, by rw [← add_next ad (i * 6) 0]; exact hc 1 _ rfl, by rw [← add_next ad (i * 6) 1]; exact hc 2 _ rfl, by rw [← add_next ad (i * 6) 2]; exact hc 3 _ rfl, by rw [← add_next ad (i * 6) 3]; exact hc 4 _ rfl, by rw [← add_next ad (i * 6) 4]; exact hc 5 _ rfl⟩
def outsB (l : List Ot) : List Nat := allB outB l
set_option maxRecDepth 20000 in
set_option maxHeartbeats 1000000 in
theorem allOut_any (w : World) (base g h0 B : Nat) (A : Option Addr) (n c : Nat) (l : List Ot) (xs : List Nat) (h : Wr w base g xs) (hh : Blk w h0 142 #[wptr g]) (hr : Reads w B 6 A n (l.flatMap outC)) (hB : B ≤ base) (hn : n ≤ 1000) (hok : ∀ x ∈ l, ok32O x) (hx : xs.length + 5 + 30 * n ≤ CAP) :
    Calls Tryz.prog 140 #[wptr g, .slice A n c, .func (.func 141) #[] #[wptr h0]] w fun e w' => e = .returned (.tuple #[]) ∧ Wr w' base g (xs ++ outsB l) ∧ WStep g w w' := by
  have hwl := hr.len_of (fun _ => rfl) (by decide)
  have hc1 := count_any w base g n xs h (by omega) (by omega)
  have hl := numB_len n
  have hgh : h0 ≠ g := fun e => by
    subst e
    obtain ⟨v, b1, _⟩ := h
    exact Blk.ne_ b1 hh (by decide) rfl
  have HH := Lib.hid h; have HR := Lib.hid hr; have HWL := Lib.hid hwl; have HOK := Lib.hid hok; have HB := Lib.hid hh
  clear h hr hwl hok hh
  go_enter Tryz.func140, Tryz.ntmps140
  go_wp2_with fail
  refine hc1.mono ?_
  rintro e w1 ⟨rfl, h1, h2⟩
  have HW := Lib.hid h1; have HST := Lib.hid h2
  clear h1 h2 hc1
  go_wp2
  go_loopw [14] (fun i wr => ∃ k : Nat, k ≤ n ∧ i = .int .i64 k ∧ Wr wr base g (xs ++ numB n ++ (l.take k).flatMap outB) ∧ WStep g w wr) (fun i _ => n - (RowKit.intOf i).toNat)
  case atStart => exact ⟨0, by omega, rfl, by simpa using HW.out, HST.out⟩
  case round =>
    obtain ⟨k, hk, rfl, hwr, hst⟩ := hrel
    have HWR := Lib.hid hwr; have HST2 := Lib.hid hst
    clear hwr hst
    by_cases hlt : k < n
    · have hkl : k < l.length := by rw [HWL.out]; exact hlt
      have hkI : (k : Int) < (n : Int) := by omega
      obtain ⟨ad, rfl, had, hc0, hc1, hc2, hc3, hc4, hc5⟩ := out_cells (HST2.out.reads HH.out HR.out hB) hkl
      have hlen : (xs ++ numB n ++ (l.take k).flatMap outB).length + 30 ≤ CAP := by
        have := flatB_len outB_len (l.take k)
        rw [List.length_append, List.length_append]
        rw [List.length_take, HWL.out] at this
        omega
      have hts := take_flat outB l k hkl
      have hcall := out_any _ base g h0 l[k] _ (HWR.out.alloc (.cells #[.int .i64 l[k].src, .int .u32 l[k].clear, .int .u32 l[k].set.1, .int .u32 l[k].set.2, .int .u32 l[k].take, .int .i64 l[k].ref] 90)) ((HST2.out.blk HH.out HB.out (by decide) hgh).alloc _) (HOK.out _ (List.getElem_mem hkl)) hlen
      have HTS := Lib.hid hts; have HCALL := Lib.hid hcall
      clear hts hcall hlen
      generalize outB l[k] = ob at *
      generalize l[k] = x at *
      go_wp2_with fail
      refine HCALL.out.mono ?_
      rintro e w2 ⟨rfl, h3, h4⟩
      have H3 := Lib.hid h3; have H4 := Lib.hid h4
      clear h3 h4
      go_wp2
      go_roundw
      case rel => exact ⟨k + 1, by omega, by go_num, by rw [HTS.out, ← List.append_assoc]; exact H3.out, (HST2.out.alloc HWR.out.lt _).trans H4.out⟩
      case measure => simp [RowKit.intOf]; omega
    · obtain rfl : k = n := by omega
      go_wp2
      go_end0
      refine ⟨rfl, ?_, HST2.out⟩
      have := HWR.out
      rw [List.take_of_length_le (by rw [HWL.out]; exact Nat.le_refl _), List.append_assoc] at this
      show Wr wr base g (xs ++ (numB l.length ++ l.flatMap outB))
      rw [HWL.out]; exact this
end Go.Proofs.YtmepaeahchiglaaGreatDoor
