/-
  cmp.Compare at ints, slices.Compare at []int. Conditions: lengths of at most maxLen.
-/
import Derived.Test.YtgkpoopiamicnaaDoorZaaf
import Derived.Test.YtgkpoopiamicnaaDoorShelf
import Derived.Test.YtgkpoopiamicnaaDoorZaac
import Derived.WalkLawsBesides
namespace Go.Proofs.YtgkpoopiamicnaaDoor
open Go.RowKit

def cmpI (a b : Int) : Int := if a < b then -1 else if b < a then 1 else 0
def cmpL : List Int → List Int → Int
  | [], [] => 0
  | [], _ :: _ => -1
  | _ :: _, [] => 1
  | a :: l, b :: m => if cmpI a b = 0 then cmpL l m else cmpI a b
theorem isNaN_any (a : Int) (w : World) : Calls Tryd.prog 97 #[.int .i64 a] w fun e w' => e = .returned (.bool false) ∧ w = w' := by
  go_enter Tryd.func97, Tryd.ntmps97
  go_wp2
  go_ret
  simp
theorem compareI_any (a b : Int) (w : World) : Calls Tryd.prog 77 #[.int .i64 a, .int .i64 b] w fun e w' => e = .returned (.int .i64 (cmpI a b)) ∧ w = w' := by
  have h := fun a => isNaN_any a w
  have H := Lib.hid h; clear h
  unfold cmpI
  by_cases h1 : a < b
  · rw [if_pos h1]
    go_enter Tryd.func77, Tryd.ntmps77
    go_wp2_with (go_at_call 97; refine (H.out _).mono ?_; rintro e w' ⟨rfl, rfl⟩)
    go_ret
    exact ⟨rfl, rfl⟩
  · by_cases h2 : b < a
    · rw [if_neg h1, if_pos h2]
      go_enter Tryd.func77, Tryd.ntmps77
      go_wp2_with (go_at_call 97; refine (H.out _).mono ?_; rintro e w' ⟨rfl, rfl⟩)
      go_ret
      exact ⟨rfl, rfl⟩
    · rw [if_neg h1, if_neg h2]
      go_enter Tryd.func77, Tryd.ntmps77
      go_wp2_with (go_at_call 97; refine (H.out _).mono ?_; rintro e w' ⟨rfl, rfl⟩)
      go_ret
      exact ⟨rfl, rfl⟩
theorem cmpI_self (a : Int) : cmpI a a = 0 := by unfold cmpI; rw [if_neg (by omega), if_neg (by omega)]
theorem cmpI_zero {a b : Int} (h : cmpI a b = 0) : a = b := by
  unfold cmpI at h
  split at h
  · omega
  · split at h
    · omega
    · omega
theorem cmpL_drop (xs ys : List Int) (k : Nat) (h : xs.take k = ys.take k) (hx : k ≤ xs.length) (hy : k ≤ ys.length) : cmpL xs ys = cmpL (xs.drop k) (ys.drop k) := by
  induction k generalizing xs ys with
  | zero => rfl
  | succ k ih =>
    cases xs with
    | nil => simp at hx
    | cons a l =>
      cases ys with
      | nil => simp at hy
      | cons b m =>
        simp only [List.take_succ_cons, List.cons.injEq] at h
        obtain ⟨rfl, h⟩ := h
        simp only [List.length_cons, Nat.add_le_add_iff_right] at hx hy
        simp only [cmpL, cmpI_self, ↓reduceIte, List.drop_succ_cons]
        exact ih l m h hx hy
set_option maxRecDepth 20000 in
set_option maxHeartbeats 2000000 in
theorem compareL_any (A B : Option Addr) (n m c d : Nat) (xs ys : List Int) (w : World) (K L : Nat) (hx : ReadI w K A n xs) (hy : ReadI w L B m ys) (hn : n ≤ maxLen) (hm : m ≤ maxLen) :
    Calls Tryd.prog 64 #[.slice A n c, .slice B m d] w fun e w' => e = .returned (.int .i64 (cmpL xs ys)) ∧ w = w' := by
  unfold maxLen at hn hm
  have HX := Lib.hid hx.len; have HY := Lib.hid hy.len
  have hc := fun a b => compareI_any a b w
  have HC := Lib.hid hc; clear hc
  go_enter Tryd.func64, Tryd.ntmps64
  go_wp2
  go_loop [11] (fun i => ∃ (k : Nat), k ≤ n ∧ k ≤ m ∧ i = .int .i64 k ∧ xs.take k = ys.take k) (fun i => n - (RowKit.intOf i).toNat)
  case atStart => exact ⟨0, by omega, by omega, rfl, by simp⟩
  case round =>
    obtain ⟨k, hk, hkm, rfl, he⟩ := hrel
    have hcd := cmpL_drop xs ys k he (by rw [HX.out]; exact hk) (by rw [HY.out]; exact hkm)
    have HE := Lib.hid he; have HCD := Lib.hid hcd; clear he hcd
    by_cases hlt : k < n
    · have hkx : k < xs.length := by rw [HX.out]; exact hlt
      obtain ⟨ad, rfl, _, hcx⟩ := hx.at_ (k := k) hkx
      by_cases hltm : k < m
      · have hky : k < ys.length := by rw [HY.out]; exact hltm
        obtain ⟨ad', rfl, _, hcy⟩ := hy.at_ (k := k) hky
        have h1 : cmpL xs ys = if cmpI xs[k] ys[k] = 0 then cmpL (xs.drop (k + 1)) (ys.drop (k + 1)) else cmpI xs[k] ys[k] := by
          rw [HCD.out, List.drop_eq_getElem_cons hkx, List.drop_eq_getElem_cons hky, cmpL]
        have h2 : xs[k] = ys[k] → xs.take (k + 1) = ys.take (k + 1) := fun e => by
          rw [List.take_succ_eq_append_getElem hkx, List.take_succ_eq_append_getElem hky, HE.out, e]
        have h3 := HC.out xs[k] ys[k]
        have h4 : cmpI xs[k] ys[k] = 0 → xs[k] = ys[k] := cmpI_zero
        generalize xs[k] = x at hcx h1 h2 h3 h4
        generalize ys[k] = y at hcy h1 h2 h3 h4
        generalize cmpI x y = z at h1 h3 h4
        have H1 := Lib.hid h1; have H2 := Lib.hid h2; have H4 := Lib.hid h4; clear h1 h2 h4
        by_cases hz : z = 0
        · subst hz
          go_wp2_with (go_at_call 77; refine h3.mono ?_; rintro e w' ⟨rfl, rfl⟩)
          go_round
          case rel => exact ⟨k + 1, by omega, by omega, by go_num, H2.out (by first | exact H4.out trivial | exact H4.out rfl)⟩
          case measure => simp [RowKit.intOf]; omega
        · have hzb : (z != 0) = true := by rw [bne_iff_ne]; exact hz
          have HZ := Lib.hid hz; clear hz
          go_wp2_with (go_at_call 77; refine h3.mono ?_; rintro e w' ⟨rfl, rfl⟩)
          go_ret
          rw [H1.out, if_neg HZ.out]; exact ⟨rfl, rfl⟩
      · have h1 : cmpL xs ys = 1 := by
          have hdy : ys.drop k = [] := List.drop_eq_nil_of_le (by rw [HY.out]; omega)
          rw [HCD.out, List.drop_eq_getElem_cons hkx, hdy]; rfl
        have H1 := Lib.hid h1; clear h1
        go_wp2
        go_ret
        rw [H1.out]; exact ⟨rfl, rfl⟩
    · have hdx : xs.drop k = [] := List.drop_eq_nil_of_le (by rw [HX.out]; omega)
      by_cases hltm : k < m
      · have h1 : cmpL xs ys = -1 := by
          rw [HCD.out, hdx, List.drop_eq_getElem_cons (by rw [HY.out]; exact hltm)]; rfl
        have H1 := Lib.hid h1; clear h1 hdx
        go_wp2
        go_ret
        rw [H1.out]; exact ⟨rfl, rfl⟩
      · have h1 : cmpL xs ys = 0 := by
          have hdy : ys.drop k = [] := List.drop_eq_nil_of_le (by rw [HY.out]; omega)
          rw [HCD.out, hdx, hdy]; rfl
        have H1 := Lib.hid h1; clear h1 hdx
        go_wp2
        go_ret
        rw [H1.out]; exact ⟨rfl, rfl⟩
def orL : List Int → Int
  | [] => 0
  | a :: l => if a = 0 then orL l else a
theorem orL_drop (xs : List Int) (k : Nat) (h : ∀ j (hj : j < xs.length), j < k → xs[j] = 0) : orL xs = orL (xs.drop k) := by
  induction k generalizing xs with
  | zero => rfl
  | succ k ih =>
    cases xs with
    | nil => rfl
    | cons a l =>
      have ha := h 0 (by simp) (by omega)
      simp only [List.getElem_cons_zero] at ha
      simp only [orL, ha, ↓reduceIte, List.drop_succ_cons]
      exact ih l (fun j hj hk => by have := h (j + 1) (by simpa using hj) (by omega); simpa using this)
set_option maxHeartbeats 1000000 in
theorem orL_any (A : Option Addr) (n c : Nat) (xs : List Int) (w : World) (K : Nat) (hx : ReadI w K A n xs) (hn : n ≤ maxLen) :
    Calls Tryd.prog 63 #[.slice A n c] w fun e w' => e = .returned (.int .i64 (orL xs)) ∧ w = w' := by
  unfold maxLen at hn
  have HX := Lib.hid hx.len
  go_enter Tryd.func63, Tryd.ntmps63
  go_wp2
  go_loop [8] (fun i => ∃ (k : Nat), k ≤ n ∧ i = .int .i64 k ∧ ∀ j (hj : j < xs.length), j < k → xs[j] = 0) (fun i => n - (RowKit.intOf i).toNat)
  case atStart => exact ⟨0, by omega, rfl, fun j _ h => absurd h (by omega)⟩
  case round =>
    obtain ⟨k, hk, rfl, hz⟩ := hrel
    have hd := orL_drop xs k hz
    have HZ := Lib.hid hz; have HD := Lib.hid hd; clear hz hd
    by_cases hlt : k < n
    · have hkx : k < xs.length := by rw [HX.out]; exact hlt
      obtain ⟨ad, rfl, _, hcx⟩ := hx.at_ (k := k) hkx
      by_cases h0 : xs[k] = 0
      · have hb : (xs[k] != 0) = false := by rw [h0]; rfl
        have H0 := Lib.hid h0; clear h0
        go_wp2
        go_round
        case rel => exact ⟨k + 1, by omega, by go_num, fun j hj hjk => if h : j = k then by subst h; exact H0.out else HZ.out j hj (by omega)⟩
        case measure => simp [RowKit.intOf]; omega
      · have hb : (xs[k] != 0) = true := by rw [bne_iff_ne]; exact h0
        have h1 : orL xs = xs[k] := by rw [HD.out, List.drop_eq_getElem_cons hkx, orL, if_neg h0]
        have H1 := Lib.hid h1; clear h1 h0
        generalize xs[k] = x at hcx hb H1
        go_wp2
        go_ret
        rw [H1.out]; exact ⟨rfl, rfl⟩
    · have hdx : xs.drop k = [] := List.drop_eq_nil_of_le (by rw [HX.out]; omega)
      have h1 : orL xs = 0 := by rw [HD.out, hdx]; rfl
      have H1 := Lib.hid h1; clear h1 hdx
      go_wp2
      go_ret
      rw [H1.out]; exact ⟨rfl, rfl⟩
end Go.Proofs.YtgkpoopiamicnaaDoor
namespace Go.Proofs.YtgkpoopiamicnaaDoor
open Go.RowKit

def beforeV (xs ys : List Int) (s t : ByteArray) : Int := orL [cmpL xs ys, Lib.compareBytes s.data.toList t.data.toList]
set_option maxRecDepth 20000 in
set_option maxHeartbeats 2000000 in
theorem before_any (A B : Option Addr) (n m c d : Nat) (xs ys : List Int) (s t : ByteArray) (w : World) (hx : ReadI w w.heap.size A n xs) (hy : ReadI w w.heap.size B m ys) (hn : n ≤ maxLen) (hm : m ≤ maxLen) :
    Calls Tryd.prog 41 #[.agg #[.slice A n c, .string s], .agg #[.slice B m d, .string t]] w fun e w' => e = .returned (.int .i64 (beforeV xs ys s t)) ∧ Below w.heap.size w w' := by
  have e1 := fun W (hb : Below w.heap.size w W) => (compareL_any A B n m c d xs ys W _ _ (hx.below hb) (hy.below hb) hn hm).mono (fun _ _ ⟨h1, h2⟩ => (⟨h1, h2.symm⟩ : _ ∧ _))
  have e2 := fun W => (Tryd.strings_Compare s t W)
  have E1 := Lib.hid e1; have E2 := Lib.hid e2; clear e1 e2 hx hy hn hm
  go_enter Tryd.func41, Tryd.ntmps41
  go_wp2
  refine region_tail 10 (by kernel_rfl) (by kernel_rfl) ?_
  simp only [List.take_succ_cons, List.take_zero, List.drop_succ_cons, List.drop_zero]
  still_step
  still_step
  still_step
  still_step
  still_call (E1.out _ (by exact (((Below.refl _ _).alloc (Nat.le_refl _) _).alloc (by simp) _).drew))
  still_step
  still_step
  still_step
  still_step
  still_call (E2.out _)
  refine wpStill_nil ?_
  go_wp2_with fail
  refine (orL_any _ 2 _ [cmpL xs ys, Lib.compareBytes s.data.toList t.data.toList] _ (w.heap.size + 3) ?hr (by unfold maxLen; omega)).mono ?_
  case hr => exact (by simpa using (reads_new ((w.alloc (.cells #[.slice A n c, .string s] 83)).alloc (.cells #[.slice B m d, .string t] 83)) 3 [.int .i64 (cmpL xs ys), .int .i64 (Lib.compareBytes s.data.toList t.data.toList)]) : Reads _ _ _ _ _ _).drew
  rintro e w' ⟨rfl, rfl⟩
  go_wp2
  go_ret
  exact ⟨rfl, (((((Below.refl _ w).alloc (Nat.le_refl _) _).alloc (by simp) _)).alloc (by simp; omega) _).drew⟩
end Go.Proofs.YtgkpoopiamicnaaDoor
namespace Go.Proofs.YtgkpoopiamicnaaDoor
open Go.RowKit

end Go.Proofs.YtgkpoopiamicnaaDoor
namespace Go.Proofs.YtgkpoopiamicnaaDoor
open Go.RowKit

abbrev Res := Int × List (ByteArray × Int)
def errTwo (r1 r2 : Res) : Int := if r1.1 = 0 then r2.1 else r1.1
def TwoPost (w : World) (r1 r2 : Res) (s t : ByteArray) (e : Ending) (w' : World) : Prop :=
  ∃ (A B : Option Addr) (n m c d : Nat) (xs ys : List Int) (s' t' : ByteArray), e = .returned (.tuple #[.agg #[.slice A n c, .string s'], .agg #[.slice B m d, .string t'], .int .i64 (errTwo r1 r2)]) ∧
    ReadI w' w'.heap.size A n xs ∧ ReadI w' w'.heap.size B m ys ∧ n ≤ maxLen ∧ m ≤ maxLen ∧ Below w.heap.size w w' ∧ (errTwo r1 r2 = 0 → xs = keyS r1.2 ∧ ys = keyS r2.2 ∧ s' = s ∧ t' = t)
theorem KeyPost.form {w w' : World} {r : Res} {e : Ending} (h : KeyPost w r e w') :
    ∃ A n c, e = .returned (.tuple #[.slice A n c, .int .i64 r.1]) ∧ ReadI w' w'.heap.size A n (keyS r.2) ∧ n ≤ maxLen ∧ Below w.heap.size w w' := by
  obtain ⟨v, rfl, ho, hb⟩ := h
  obtain ⟨A, c, rfl, h1, h2⟩ := ownsRow_form ho
  exact ⟨A, _, c, rfl, Reads.of_own ho, by omega, hb⟩

theorem _root_.Go.World.ownsRow.keepSet {w : World} {base : Nat} {e : TypeId} {n : Nat} {v : Value} {xs : List Value} (h : w.ownsRow base e 1 v n xs) {a : Addr} (ha : a.block < base) (u : Value) : (w.setCell a u).ownsRow base e 1 v n xs := ownsRow_setCell_below h ha u
theorem KeyPost.formO {w w' : World} {r : Res} {e : Ending} (h : KeyPost w r e w') :
    ∃ A n c, e = .returned (.tuple #[.slice A n c, .int .i64 r.1]) ∧ w'.ownsRow w.heap.size 3 1 (.slice A n c) n (ints (keyS r.2)) ∧ n ≤ maxLen ∧ Below w.heap.size w w' := by
  obtain ⟨v, rfl, ho, hb⟩ := h
  obtain ⟨A, c, rfl, h1, h2⟩ := ownsRow_form ho
  exact ⟨A, _, c, rfl, ho, by omega, hb⟩

set_option maxRecDepth 20000 in
set_option maxHeartbeats 2000000 in
theorem two_any (p : Option Addr) (og : Option (List (List ByteArray))) (s t : ByteArray) (w : World) (hA : AlphO w p og) :
    Calls Tryd.prog 40 #[.pointer p, .string s, .string t] w (TwoPost w (readResO og s) (readResO og t) s t) := by
  have k1 := fun W (hb : Below w.heap.size w W) => (keyO_any p og s W (hA.below hb)).mono fun _ _ h => h.formO
  have k2 := fun W (hb : Below w.heap.size w W) => (keyO_any p og t W (hA.below hb)).mono fun _ _ h => h.formO
  generalize readResO og s = r1 at k1
  generalize readResO og t = r2 at k2
  have K1 := Lib.hid k1; have K2 := Lib.hid k2; clear k1 k2 hA
  obtain ⟨W0, hW0⟩ : ∃ W0, (w.alloc (.cells #[.slice none 0 0, .string ⟨#[]⟩] 83)).alloc (.cells #[.slice none 0 0, .string ⟨#[]⟩] 83) = W0 := ⟨_, rfl⟩
  have hbW : Below w.heap.size w W0 := by rw [← hW0]; exact ((Below.refl _ w).alloc (Nat.le_refl _) _).alloc (by simp) _
  have hsz : W0.heap.size = w.heap.size + 2 := by rw [← hW0]; simp
  have b0 : Blk W0 w.heap.size 83 #[.slice none 0 0, .string ⟨#[]⟩] := by rw [← hW0]; exact (Blk.new w _ _).alloc _
  have b1 : Blk W0 (w.heap.size + 1) 83 #[.slice none 0 0, .string ⟨#[]⟩] := by
    rw [← hW0]
    have := Blk.new (w.alloc (.cells #[.slice none 0 0, .string ⟨#[]⟩] 83)) 83 #[.slice none 0 0, .string ⟨#[]⟩]
    rwa [World.size_alloc] at this
  have HW0 := Lib.hid hW0; have HSZ := Lib.hid hsz; clear hW0 hsz
  by_cases h1 : r1.1 = 0
  · have H1 := Lib.hid h1; clear h1
    by_cases h2 : r2.1 = 0
    · have H2 := Lib.hid h2; clear h2
      go_enter Tryd.func40, Tryd.ntmps40
      go_wp2_with fail
      rw [HW0.out]
      refine (K1.out _ hbW).mono ?_
      rintro e w1 ⟨A, n, c, rfl, ho, hn, hb⟩
      rw [H1.out]
      go_wp2_with fail
      refine (K2.out _ (hbW.trans (hb.mono hbW.size))).mono ?_
      rintro e w2 ⟨B, m, d, rfl, ho2, hm, hb2⟩
      have hb3 := hb.trans (hb2.mono hb.size)
      have c00 := (b0.below hb3 (by rw [HSZ.out]; omega)).cell 0
      have c01 := (b0.below hb3 (by rw [HSZ.out]; omega)).cell 1
      have c10 := (b1.below hb3 (by rw [HSZ.out]; omega)).cell 0
      have c11 := (b1.below hb3 (by rw [HSZ.out]; omega)).cell 1
      have f00 := (b0.below hb3 (by rw [HSZ.out]; omega)).frozen 0
      have f01 := (b0.below hb3 (by rw [HSZ.out]; omega)).frozen 1
      have f10 := (b1.below hb3 (by rw [HSZ.out]; omega)).frozen 0
      have f11 := (b1.below hb3 (by rw [HSZ.out]; omega)).frozen 1
      simp only [List.getElem?_toArray, List.getElem?_cons_zero, List.getElem?_cons_succ] at c00 c01 c10 c11
      have hsz1 : w.heap.size + 2 ≤ w1.heap.size := by have := hb.size; rw [HSZ.out] at this; exact this
      rw [H2.out]
      go_wp2
      have hB := hbW.trans (hb3.mono hbW.size)
      have o1 := ((((own_below ho hb2).keepSet (a := ⟨w.heap.size, 0, none⟩) (by rw [HSZ.out]; simp) (.slice A n c)).keepSet (a := ⟨w.heap.size, 1, none⟩) (by rw [HSZ.out]; simp) (.string s)).keepSet (a := ⟨w.heap.size + 1, 0, none⟩) (by rw [HSZ.out]; simp) (.slice B m d)).keepSet (a := ⟨w.heap.size + 1, 1, none⟩) (by rw [HSZ.out]; simp) (.string t)
      have o2 := (((ho2.keepSet (a := ⟨w.heap.size, 0, none⟩) (by simp; omega) (.slice A n c)).keepSet (a := ⟨w.heap.size, 1, none⟩) (by simp; omega) (.string s)).keepSet (a := ⟨w.heap.size + 1, 0, none⟩) (by simp; omega) (.slice B m d)).keepSet (a := ⟨w.heap.size + 1, 1, none⟩) (by simp; omega) (.string t)
      refine bodyPost_ret (v := .tuple #[.agg #[.slice A n c, .string s], .agg #[.slice B m d, .string t], .int .i64 0]) (by simp [results, Tryd.results40, go_sem, c00, c01, c10, c11]) rfl ?_
      have hE : errTwo r1 r2 = 0 := by unfold errTwo; rw [if_pos H1.out]; exact H2.out
      refine ⟨A, B, n, m, c, d, _, _, s, t, by rw [hE], Reads.of_own o1, Reads.of_own o2, hn, hm, ?_, fun _ => ⟨rfl, rfl, rfl, rfl⟩⟩
      exact (((hB.setCell (by simp) _).setCell (by simp) _).setCell (by simp) _).setCell (by simp) _
    · have h2b : (r2.1 != 0) = true := by rw [bne_iff_ne]; exact h2
      have H2 := Lib.hid h2; clear h2
      go_enter Tryd.func40, Tryd.ntmps40
      go_wp2_with fail
      rw [HW0.out]
      refine (K1.out _ hbW).mono ?_
      rintro e w1 ⟨A, n, c, rfl, ho, hn, hb⟩
      rw [H1.out]
      go_wp2_with fail
      refine (K2.out _ (hbW.trans (hb.mono hbW.size))).mono ?_
      rintro e w2 ⟨B, m, d, rfl, ho2, hm, hb2⟩
      have hb3 := hb.trans (hb2.mono hb.size)
      have c00 := (b0.below hb3 (by rw [HSZ.out]; omega)).cell 0
      have c01 := (b0.below hb3 (by rw [HSZ.out]; omega)).cell 1
      have c10 := (b1.below hb3 (by rw [HSZ.out]; omega)).cell 0
      have c11 := (b1.below hb3 (by rw [HSZ.out]; omega)).cell 1
      have f00 := (b0.below hb3 (by rw [HSZ.out]; omega)).frozen 0
      have f01 := (b0.below hb3 (by rw [HSZ.out]; omega)).frozen 1
      have f10 := (b1.below hb3 (by rw [HSZ.out]; omega)).frozen 0
      have f11 := (b1.below hb3 (by rw [HSZ.out]; omega)).frozen 1
      simp only [List.getElem?_toArray, List.getElem?_cons_zero, List.getElem?_cons_succ] at c00 c01 c10 c11
      have hsz1 : w.heap.size + 2 ≤ w1.heap.size := by have := hb.size; rw [HSZ.out] at this; exact this
      go_wp2
      refine bodyPost_ret (v := .tuple #[.agg #[.slice none 0 0, .string ⟨#[]⟩], .agg #[.slice none 0 0, .string ⟨#[]⟩], .int .i64 r2.1]) (by simp [results, Tryd.results40, go_sem, c00, c01, c10, c11]) rfl ?_
      have hE : errTwo r1 r2 = r2.1 := by unfold errTwo; rw [if_pos H1.out]
      refine ⟨none, none, 0, 0, 0, 0, [], [], ⟨#[]⟩, ⟨#[]⟩, by rw [hE], Reads.none_, Reads.none_, by simp, by simp, ?_, fun h => absurd h (by rw [hE]; exact H2.out)⟩
      have hB := hbW.trans (hb3.mono hbW.size)
      exact (((hB.setCell (by simp) _).setCell (by simp) _).setCell (by simp) _).setCell (by simp) _
  · have h1b : (r1.1 != 0) = true := by rw [bne_iff_ne]; exact h1
    have H1 := Lib.hid h1; clear h1
    go_enter Tryd.func40, Tryd.ntmps40
    go_wp2_with fail
    rw [HW0.out]
    refine (K1.out _ hbW).mono ?_
    rintro e w1 ⟨A, n, c, rfl, ho, hn, hb⟩
    have c00 := (b0.below hb (by rw [HSZ.out]; omega)).cell 0
    have c01 := (b0.below hb (by rw [HSZ.out]; omega)).cell 1
    have c10 := (b1.below hb (by rw [HSZ.out]; omega)).cell 0
    have c11 := (b1.below hb (by rw [HSZ.out]; omega)).cell 1
    have f00 := (b0.below hb (by rw [HSZ.out]; omega)).frozen 0
    have f01 := (b0.below hb (by rw [HSZ.out]; omega)).frozen 1
    have f10 := (b1.below hb (by rw [HSZ.out]; omega)).frozen 0
    have f11 := (b1.below hb (by rw [HSZ.out]; omega)).frozen 1
    simp only [List.getElem?_toArray, List.getElem?_cons_zero, List.getElem?_cons_succ] at c00 c01 c10 c11
    go_wp2
    refine bodyPost_ret (v := .tuple #[.agg #[.slice none 0 0, .string ⟨#[]⟩], .agg #[.slice none 0 0, .string ⟨#[]⟩], .int .i64 r1.1]) (by simp [results, Tryd.results40, go_sem, c00, c01, c10, c11]) rfl ?_
    have hE : errTwo r1 r2 = r1.1 := by unfold errTwo; rw [if_neg H1.out]
    refine ⟨none, none, 0, 0, 0, 0, [], [], ⟨#[]⟩, ⟨#[]⟩, by rw [hE], Reads.none_, Reads.none_, by simp, by simp, ?_, fun h => absurd h (by rw [hE]; exact H1.out)⟩
    have hB := hbW.trans (hb.mono hbW.size)
    exact (((hB.setCell (by simp) _).setCell (by simp) _).setCell (by simp) _).setCell (by simp) _
end Go.Proofs.YtgkpoopiamicnaaDoor
namespace Go.Proofs.YtgkpoopiamicnaaDoor
open Go.RowKit

theorem cmpB_range (a b : List UInt8) : Lib.compareBytes a b = -1 ∨ Lib.compareBytes a b = 0 ∨ Lib.compareBytes a b = 1 := by
  induction a generalizing b with
  | nil => cases b <;> simp [Lib.compareBytes]
  | cons x a ih =>
    cases b with
    | nil => simp [Lib.compareBytes]
    | cons y b =>
      rw [Lib.compareBytes]
      split
      · simp
      · split
        · simp
        · exact ih b
theorem cmpB_less (a b : List UInt8) : Op.bytesLess a b = decide (Lib.compareBytes a b = -1) := by
  induction a generalizing b with
  | nil => cases b <;> simp [Lib.compareBytes, Op.bytesLess]
  | cons x a ih =>
    cases b with
    | nil => simp [Lib.compareBytes, Op.bytesLess]
    | cons y b =>
      rw [Lib.compareBytes, Op.bytesLess, ih b]
      by_cases h : x < y
      · rw [if_pos h]; simp [h]
      · rw [if_neg h]
        by_cases h' : y < x
        · have : x ≠ y := fun e => by subst e; exact h h'
          rw [if_pos h']; simp [h, this]
        · have : x = y := UInt8.le_antisymm (UInt8.not_lt.1 h') (UInt8.not_lt.1 h)
          rw [if_neg h']; simp [this]
theorem cmpB_eq (a b : List UInt8) : Lib.compareBytes a b = 0 ↔ a = b := by
  induction a generalizing b with
  | nil => cases b <;> simp [Lib.compareBytes]
  | cons x a ih =>
    cases b with
    | nil => simp [Lib.compareBytes]
    | cons y b =>
      rw [Lib.compareBytes]
      by_cases h : x < y
      · have : x ≠ y := fun e => by subst e; exact absurd h (UInt8.lt_irrefl _)
        rw [if_pos h]; simp [this]
      · rw [if_neg h]
        by_cases h' : y < x
        · have : x ≠ y := fun e => by subst e; exact h h'
          rw [if_pos h']; simp [this]
        · have : x = y := UInt8.le_antisymm (UInt8.not_lt.1 h') (UInt8.not_lt.1 h)
          rw [if_neg h', ih b]; simp [this]
theorem cmpL_eq (a b : List Int) : cmpL a b = 0 ↔ a = b := by
  induction a generalizing b with
  | nil => cases b <;> simp [cmpL]
  | cons x a ih =>
    cases b with
    | nil => simp [cmpL]
    | cons y b =>
      rw [cmpL]
      by_cases h : cmpI x y = 0
      · rw [if_pos h, ih b, cmpI_zero h]; simp
      · have : x ≠ y := fun e => h (by rw [e, cmpI_self])
        rw [if_neg h]; simp [h, this]
theorem beforeV_eq (xs ys : List Int) (s t : ByteArray) : beforeV xs ys s t = if cmpL xs ys = 0 then Lib.compareBytes (bl s) (bl t) else cmpL xs ys := by
  unfold beforeV
  simp only [orL]
  split
  · split
    · rename_i h; exact h.symm
    · rfl
  · rfl
def orderRes (r1 r2 : Res) (s t : ByteArray) : Int × Int := if errTwo r1 r2 = 0 then (beforeV (keyS r1.2) (keyS r2.2) s t, 0) else (0, errTwo r1 r2)
def sameRes (r1 r2 : Res) : Bool := decide (errTwo r1 r2 = 0) && decide (keyS r1.2 = keyS r2.2)
def OrderPost (w : World) (v : Int × Int) (e : Ending) (w' : World) : Prop := e = .returned (.tuple #[.int .i64 v.1, .int .i64 v.2]) ∧ Below w.heap.size w w'
def SamePost (w : World) (b : Bool) (e : Ending) (w' : World) : Prop := e = .returned (.bool b) ∧ Below w.heap.size w w'
theorem below_drewN39 {B : Nat} {a w : World} (h : Below B a w) (n : Nat) : Below B a (w.drewN n) := ⟨h.os, h.tape, h.output, h.size, h.block⟩

end Go.Proofs.YtgkpoopiamicnaaDoor
namespace Go.Proofs.YtgkpoopiamicnaaDoor
open Go.RowKit Go.Lib

theorem cmpI_anti (a b : Int) : cmpI a b = - cmpI b a := by unfold cmpI; split <;> split <;> omega
theorem cmpI_range (a b : Int) : cmpI a b = -1 ∨ cmpI a b = 0 ∨ cmpI a b = 1 := by unfold cmpI; split <;> (try split) <;> simp
theorem cmpL_range (a b : List Int) : cmpL a b = -1 ∨ cmpL a b = 0 ∨ cmpL a b = 1 := by
  induction a generalizing b with
  | nil => cases b <;> simp [cmpL]
  | cons x a ih =>
    cases b with
    | nil => simp [cmpL]
    | cons y b =>
      rw [cmpL]
      split
      · exact ih b
      · exact cmpI_range x y
theorem cmpL_anti (a b : List Int) : cmpL a b = - cmpL b a := by
  induction a generalizing b with
  | nil => cases b <;> simp [cmpL]
  | cons x a ih =>
    cases b with
    | nil => simp [cmpL]
    | cons y b =>
      rw [cmpL, cmpL, cmpI_anti x y]
      by_cases h : cmpI y x = 0
      · rw [if_pos (by omega), if_pos h]; exact ih b
      · rw [if_neg (by omega), if_neg h]
theorem cmpI_le (a b : Int) : cmpI a b ≤ 0 ↔ a ≤ b := by unfold cmpI; split <;> (try split) <;> omega
theorem cmpI_lt (a b : Int) : cmpI a b < 0 ↔ a < b := by unfold cmpI; split <;> (try split) <;> omega
theorem cmpL_trans (a b c : List Int) (h1 : cmpL a b ≤ 0) (h2 : cmpL b c ≤ 0) : cmpL a c ≤ 0 ∧ (cmpL a b < 0 ∨ cmpL b c < 0 → cmpL a c < 0) := by
  induction a generalizing b c with
  | nil =>
    cases b with
    | nil =>
      cases c with
      | nil => simp [cmpL]
      | cons z c => simp [cmpL]
    | cons y b =>
      cases c with
      | nil => simp [cmpL] at h2
      | cons z c => simp [cmpL]
  | cons x a ih =>
    cases b with
    | nil => simp [cmpL] at h1
    | cons y b =>
      cases c with
      | nil => simp [cmpL] at h2
      | cons z c =>
        simp only [cmpL] at h1 h2 ⊢
        have hxy := cmpI_le x y; have hyz := cmpI_le y z; have hxz := cmpI_le x z
        have lxy := cmpI_lt x y; have lyz := cmpI_lt y z; have lxz := cmpI_lt x z
        by_cases e1 : cmpI x y = 0
        · have := cmpI_zero e1
          subst this
          by_cases e2 : cmpI x z = 0
          · rw [if_pos e1] at h1 ⊢; rw [if_pos e2] at h2 ⊢
            rw [if_pos e2]
            exact ih b c h1 h2
          · rw [if_pos e1] at h1 ⊢; rw [if_neg e2] at h2 ⊢
            rw [if_neg e2]
            exact ⟨h2, fun _ => by omega⟩
        · rw [if_neg e1] at h1 ⊢
          by_cases e2 : cmpI y z = 0
          · have := cmpI_zero e2
            subst this
            rw [if_neg e1]
            exact ⟨h1, fun _ => by omega⟩
          · rw [if_neg e2] at h2 ⊢
            have h3 : x < y := by omega
            have h4 : y < z := by omega
            have h5 : cmpI x z < 0 := by omega
            rw [if_neg (by omega)]
            exact ⟨by omega, fun _ => h5⟩
/-- Bytes as numbers: the same order. -/
theorem cmpB_L (a b : List UInt8) : Lib.compareBytes a b = cmpL (a.map fun c => (c.toNat : Int)) (b.map fun c => (c.toNat : Int)) := by
  induction a generalizing b with
  | nil => cases b <;> simp [cmpL, Lib.compareBytes]
  | cons x a ih =>
    cases b with
    | nil => simp [cmpL, Lib.compareBytes]
    | cons y b =>
      simp only [List.map_cons, cmpL, Lib.compareBytes, ih b]
      have h1 : x < y ↔ x.toNat < y.toNat := UInt8.lt_iff_toNat_lt
      have h2 : y < x ↔ y.toNat < x.toNat := UInt8.lt_iff_toNat_lt
      by_cases e1 : x.toNat < y.toNat
      · have hc : cmpI (x.toNat : Int) (y.toNat : Int) = -1 := by unfold cmpI; rw [if_pos (show (x.toNat : Int) < y.toNat by omega)]
        rw [if_pos (h1.2 e1), hc, if_neg (by decide)]
      · by_cases e2 : y.toNat < x.toNat
        · have hc : cmpI (x.toNat : Int) (y.toNat : Int) = 1 := by unfold cmpI; rw [if_neg (show ¬ (x.toNat : Int) < y.toNat by omega), if_pos (show (y.toNat : Int) < x.toNat by omega)]
          rw [if_neg (fun h => e1 (h1.1 h)), if_pos (h2.2 e2), hc, if_neg (by decide)]
        · have hc : cmpI (x.toNat : Int) (y.toNat : Int) = 0 := by unfold cmpI; rw [if_neg (show ¬ (x.toNat : Int) < y.toNat by omega), if_neg (show ¬ (y.toNat : Int) < x.toNat by omega)]
          rw [if_neg (fun h => e1 (h1.1 h)), if_neg (fun h => e2 (h2.1 h)), hc, if_pos rfl]
abbrev bsI (s : ByteArray) : List Int := (bl s).map fun c => (c.toNat : Int)
theorem beforeV_L (xs ys : List Int) (s t : ByteArray) : beforeV xs ys s t = if cmpL xs ys = 0 then cmpL (bsI s) (bsI t) else cmpL xs ys := by
  rw [beforeV_eq, cmpB_L]
theorem beforeV_range (xs ys : List Int) (s t : ByteArray) : beforeV xs ys s t = -1 ∨ beforeV xs ys s t = 0 ∨ beforeV xs ys s t = 1 := by
  rw [beforeV_L]; split
  · exact cmpL_range _ _
  · exact cmpL_range _ _
theorem beforeV_anti (xs ys : List Int) (s t : ByteArray) : beforeV xs ys s t = - beforeV ys xs t s := by
  rw [beforeV_L, beforeV_L]
  have h1 := cmpL_anti xs ys
  have h2 := cmpL_anti (bsI s) (bsI t)
  by_cases e : cmpL xs ys = 0
  · rw [if_pos e, if_pos (by omega)]; exact h2
  · rw [if_neg e, if_neg (by omega)]; exact h1
theorem beforeV_trans (xs ys zs : List Int) (s t u : ByteArray) (h1 : beforeV xs ys s t ≤ 0) (h2 : beforeV ys zs t u ≤ 0) : beforeV xs zs s u ≤ 0 := by
  rw [beforeV_L] at h1 h2 ⊢
  have a1 := cmpL_range xs ys; have a2 := cmpL_range ys zs; have a3 := cmpL_range xs zs
  by_cases e1 : cmpL xs ys = 0
  · by_cases e2 : cmpL ys zs = 0
    · rw [if_pos e1] at h1; rw [if_pos e2] at h2
      have t1 := cmpL_trans xs ys zs (by omega) (by omega)
      have t2 := (cmpL_trans _ _ _ h1 h2).1
      split
      · exact t2
      · exact t1.1
    · rw [if_neg e2] at h2
      have t1 := cmpL_trans xs ys zs (by omega) (by omega)
      have : cmpL xs zs < 0 := t1.2 (.inr (by omega))
      rw [if_neg (by omega)]; omega
  · rw [if_neg e1] at h1
    by_cases e2 : cmpL ys zs = 0
    · have t1 := cmpL_trans xs ys zs (by omega) (by omega)
      have : cmpL xs zs < 0 := t1.2 (.inl (by omega))
      rw [if_neg (by omega)]; omega
    · rw [if_neg e2] at h2
      have t1 := cmpL_trans xs ys zs (by omega) (by omega)
      have : cmpL xs zs < 0 := t1.2 (.inl (by omega))
      rw [if_neg (by omega)]; omega
theorem beforeV_self (xs : List Int) (s : ByteArray) : beforeV xs xs s s = 0 := by
  rw [beforeV_L, if_pos ((cmpL_eq _ _).2 rfl)]; exact (cmpL_eq _ _).2 rfl
theorem beforeV_zero {xs ys : List Int} {s t : ByteArray} (h : beforeV xs ys s t = 0) : s = t := by
  rw [beforeV_eq] at h
  split at h
  · exact bl_inj ((cmpB_eq _ _).1 h)
  · exact absurd h (by assumption)
end Go.Proofs.YtgkpoopiamicnaaDoor
