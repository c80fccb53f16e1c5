/-
  cmp.Compare at ints, slices.Compare at []int. Conditions: lengths of at most maxLen.
-/
import Derived.Test.YtgkpoopiamicnaaGreatDoorZbaf
import Derived.StillTailTactics
import Derived.Test.YtgkpoopiamicnaaGreatDoorZbaa
import Derived.Test.YtgkpoopiamicnaaGreatDoorShelf
import Derived.WalkLawsBesides
namespace Go.Proofs.YtgkpoopiamicnaaGreatDoor
open Go.RowKit

def cmpI (a b : Int) : Int := if a < b then -1 else if b < a then 1 else 0
def cmpL : List Int → List Int → Int
  | [], [] => 0
  | [], _ :: _ => -1
  | _ :: _, [] => 1
  | a :: l, b :: m => if cmpI a b = 0 then cmpL l m else cmpI a b
theorem isNaN_any (a : Int) (w : World) : Calls Tryz.prog 239 #[.int .i64 a] w fun e w' => e = .returned (.bool false) ∧ w = w' := by
  go_enter Tryz.func239, Tryz.ntmps239
  go_wp2
  go_ret
  simp
theorem compareI_any (a b : Int) (w : World) : Calls Tryz.prog 227 #[.int .i64 a, .int .i64 b] w fun e w' => e = .returned (.int .i64 (cmpI a b)) ∧ w = w' := by
  have h := fun a => isNaN_any a w
  have H := Lib.hid h; clear h
  unfold cmpI
  by_cases h1 : a < b
  · rw [if_pos h1]
    go_enter Tryz.func227, Tryz.ntmps227
    go_wp2_with (go_at_call 239; refine (H.out _).mono ?_; rintro e w' ⟨rfl, rfl⟩)
    go_ret
    exact ⟨rfl, rfl⟩
  · by_cases h2 : b < a
    · rw [if_neg h1, if_pos h2]
      go_enter Tryz.func227, Tryz.ntmps227
      go_wp2_with (go_at_call 239; refine (H.out _).mono ?_; rintro e w' ⟨rfl, rfl⟩)
      go_ret
      exact ⟨rfl, rfl⟩
    · rw [if_neg h1, if_neg h2]
      go_enter Tryz.func227, Tryz.ntmps227
      go_wp2_with (go_at_call 239; refine (H.out _).mono ?_; rintro e w' ⟨rfl, rfl⟩)
      go_ret
      exact ⟨rfl, rfl⟩
theorem cmpI_self (a : Int) : cmpI a a = 0 := by unfold cmpI; rw [if_neg (by omega), if_neg (by omega)]
theorem cmpI_zero {a b : Int} (h : cmpI a b = 0) : a = b := by
  unfold cmpI at h
  split at h
  · omega
  · split at h
    · omega
    · omega
theorem cmpL_drop (xs ys : List Int) (k : Nat) (h : xs.take k = ys.take k) (hx : k ≤ xs.length) (hy : k ≤ ys.length) : cmpL xs ys = cmpL (xs.drop k) (ys.drop k) := by
  induction k generalizing xs ys with
  | zero => rfl
  | succ k ih =>
    cases xs with
    | nil => simp at hx
    | cons a l =>
      cases ys with
      | nil => simp at hy
      | cons b m =>
        simp only [List.take_succ_cons, List.cons.injEq] at h
        obtain ⟨rfl, h⟩ := h
        simp only [List.length_cons, Nat.add_le_add_iff_right] at hx hy
        simp only [cmpL, cmpI_self, ↓reduceIte, List.drop_succ_cons]
        exact ih l m h hx hy
set_option maxRecDepth 20000 in
set_option maxHeartbeats 2000000 in
theorem compareL_any (A B : Option Addr) (n m c d : Nat) (xs ys : List Int) (w : World) (K L : Nat) (hx : ReadI w K A n xs) (hy : ReadI w L B m ys) (hn : n ≤ maxLen) (hm : m ≤ maxLen) :
    Calls Tryz.prog 207 #[.slice A n c, .slice B m d] w fun e w' => e = .returned (.int .i64 (cmpL xs ys)) ∧ w = w' := by
  unfold maxLen at hn hm
  have HX := Lib.hid hx.len; have HY := Lib.hid hy.len
  have hc := fun a b => compareI_any a b w
  have HC := Lib.hid hc; clear hc
  go_enter Tryz.func207, Tryz.ntmps207
  go_wp2
  go_loop [11] (fun i => ∃ (k : Nat), k ≤ n ∧ k ≤ m ∧ i = .int .i64 k ∧ xs.take k = ys.take k) (fun i => n - (RowKit.intOf i).toNat)
  case atStart => exact ⟨0, by omega, by omega, rfl, by simp⟩
  case round =>
    obtain ⟨k, hk, hkm, rfl, he⟩ := hrel
    have hcd := cmpL_drop xs ys k he (by rw [HX.out]; exact hk) (by rw [HY.out]; exact hkm)
    have HE := Lib.hid he; have HCD := Lib.hid hcd; clear he hcd
    by_cases hlt : k < n
    · have hkx : k < xs.length := by rw [HX.out]; exact hlt
      obtain ⟨ad, rfl, _, hcx⟩ := hx.at_ (k := k) hkx
      by_cases hltm : k < m
      · have hky : k < ys.length := by rw [HY.out]; exact hltm
        obtain ⟨ad', rfl, _, hcy⟩ := hy.at_ (k := k) hky
        have h1 : cmpL xs ys = if cmpI xs[k] ys[k] = 0 then cmpL (xs.drop (k + 1)) (ys.drop (k + 1)) else cmpI xs[k] ys[k] := by
          rw [HCD.out, List.drop_eq_getElem_cons hkx, List.drop_eq_getElem_cons hky, cmpL]
        have h2 : xs[k] = ys[k] → xs.take (k + 1) = ys.take (k + 1) := fun e => by
          rw [List.take_succ_eq_append_getElem hkx, List.take_succ_eq_append_getElem hky, HE.out, e]
        have h3 := HC.out xs[k] ys[k]
        have h4 : cmpI xs[k] ys[k] = 0 → xs[k] = ys[k] := cmpI_zero
        generalize xs[k] = x at hcx h1 h2 h3 h4
        generalize ys[k] = y at hcy h1 h2 h3 h4
        generalize cmpI x y = z at h1 h3 h4
        have H1 := Lib.hid h1; have H2 := Lib.hid h2; have H4 := Lib.hid h4; clear h1 h2 h4
        by_cases hz : z = 0
        · subst hz
          go_wp2_with (go_at_call 227; refine h3.mono ?_; rintro e w' ⟨rfl, rfl⟩)
          go_round
          case rel => exact ⟨k + 1, by omega, by omega, by go_num, H2.out (by first | exact H4.out trivial | exact H4.out rfl)⟩
          case measure => simp [RowKit.intOf]; omega
        · have hzb : (z != 0) = true := by rw [bne_iff_ne]; exact hz
          have HZ := Lib.hid hz; clear hz
          go_wp2_with (go_at_call 227; refine h3.mono ?_; rintro e w' ⟨rfl, rfl⟩)
          go_ret
          rw [H1.out, if_neg HZ.out]; exact ⟨rfl, rfl⟩
      · have h1 : cmpL xs ys = 1 := by
          have hdy : ys.drop k = [] := List.drop_eq_nil_of_le (by rw [HY.out]; omega)
          rw [HCD.out, List.drop_eq_getElem_cons hkx, hdy]; rfl
        have H1 := Lib.hid h1; clear h1
        go_wp2
        go_ret
        rw [H1.out]; exact ⟨rfl, rfl⟩
    · have hdx : xs.drop k = [] := List.drop_eq_nil_of_le (by rw [HX.out]; omega)
      by_cases hltm : k < m
      · have h1 : cmpL xs ys = -1 := by
          rw [HCD.out, hdx, List.drop_eq_getElem_cons (by rw [HY.out]; exact hltm)]; rfl
        have H1 := Lib.hid h1; clear h1 hdx
        go_wp2
        go_ret
        rw [H1.out]; exact ⟨rfl, rfl⟩
      · have h1 : cmpL xs ys = 0 := by
          have hdy : ys.drop k = [] := List.drop_eq_nil_of_le (by rw [HY.out]; omega)
          rw [HCD.out, hdx, hdy]; rfl
        have H1 := Lib.hid h1; clear h1 hdx
        go_wp2
        go_ret
        rw [H1.out]; exact ⟨rfl, rfl⟩
def orL : List Int → Int
  | [] => 0
  | a :: l => if a = 0 then orL l else a
theorem orL_drop (xs : List Int) (k : Nat) (h : ∀ j (hj : j < xs.length), j < k → xs[j] = 0) : orL xs = orL (xs.drop k) := by
  induction k generalizing xs with
  | zero => rfl
  | succ k ih =>
    cases xs with
    | nil => rfl
    | cons a l =>
      have ha := h 0 (by simp) (by omega)
      simp only [List.getElem_cons_zero] at ha
      simp only [orL, ha, ↓reduceIte, List.drop_succ_cons]
      exact ih l (fun j hj hk => by have := h (j + 1) (by simpa using hj) (by omega); simpa using this)
set_option maxHeartbeats 1000000 in
theorem orL_any (A : Option Addr) (n c : Nat) (xs : List Int) (w : World) (K : Nat) (hx : ReadI w K A n xs) (hn : n ≤ maxLen) :
    Calls Tryz.prog 206 #[.slice A n c] w fun e w' => e = .returned (.int .i64 (orL xs)) ∧ w = w' := by
  unfold maxLen at hn
  have HX := Lib.hid hx.len
  go_enter Tryz.func206, Tryz.ntmps206
  go_wp2
  go_loop [8] (fun i => ∃ (k : Nat), k ≤ n ∧ i = .int .i64 k ∧ ∀ j (hj : j < xs.length), j < k → xs[j] = 0) (fun i => n - (RowKit.intOf i).toNat)
  case atStart => exact ⟨0, by omega, rfl, fun j _ h => absurd h (by omega)⟩
  case round =>
    obtain ⟨k, hk, rfl, hz⟩ := hrel
    have hd := orL_drop xs k hz
    have HZ := Lib.hid hz; have HD := Lib.hid hd; clear hz hd
    by_cases hlt : k < n
    · have hkx : k < xs.length := by rw [HX.out]; exact hlt
      obtain ⟨ad, rfl, _, hcx⟩ := hx.at_ (k := k) hkx
      by_cases h0 : xs[k] = 0
      · have hb : (xs[k] != 0) = false := by rw [h0]; rfl
        have H0 := Lib.hid h0; clear h0
        go_wp2
        go_round
        case rel => exact ⟨k + 1, by omega, by go_num, fun j hj hjk => if h : j = k then by subst h; exact H0.out else HZ.out j hj (by omega)⟩
        case measure => simp [RowKit.intOf]; omega
      · have hb : (xs[k] != 0) = true := by rw [bne_iff_ne]; exact h0
        have h1 : orL xs = xs[k] := by rw [HD.out, List.drop_eq_getElem_cons hkx, orL, if_neg h0]
        have H1 := Lib.hid h1; clear h1 h0
        generalize xs[k] = x at hcx hb H1
        go_wp2
        go_ret
        rw [H1.out]; exact ⟨rfl, rfl⟩
    · have hdx : xs.drop k = [] := List.drop_eq_nil_of_le (by rw [HX.out]; omega)
      have h1 : orL xs = 0 := by rw [HD.out, hdx]; rfl
      have H1 := Lib.hid h1; clear h1 hdx
      go_wp2
      go_ret
      rw [H1.out]; exact ⟨rfl, rfl⟩
end Go.Proofs.YtgkpoopiamicnaaGreatDoor
namespace Go.Proofs.YtgkpoopiamicnaaGreatDoor
open Go.RowKit

theorem region_tail {P : Program} {id : Nat} {Q : Exit → Act → World → Prop} {a : Act} {w : World} {l : List Oper} (n : Nat) (hm : P.follows .mixedOrders = true) (hB : Region.lexTailB .any l.toArray n = true)
    (h : wpStill P l.toArray w.drew (fun a' => wpList P l.toArray Q (l.drop n) a' w.drew) (l.take n) a) : (Code.region id l.toArray true).wp P Q a w := wp_region_still_tail n hm hB h
theorem add_at (b j : Nat) : (⟨b, 0, none⟩ : Addr).add j = ⟨b, j, none⟩ := by unfold Addr.add; split <;> simp_all
/-- A block that was just made reads as what lies in it. -/
theorem reads_new (w : World) (t : TypeId) (cs : List Value) : Reads (w.alloc (.cells cs.toArray t)) (w.heap.size + 1) 1 (some ⟨w.heap.size, 0, none⟩) cs.length cs := by
  refine ⟨by simp, fun _ => ⟨_, rfl, by simp, fun j u hu => ?_⟩⟩
  rw [add_at, (Blk.new w t cs.toArray).cell j]
  simpa using hu
end Go.Proofs.YtgkpoopiamicnaaGreatDoor
namespace Go.Proofs.YtgkpoopiamicnaaGreatDoor
open Go.RowKit

def beforeV (xs ys : List Int) (s t : ByteArray) : Int := orL [cmpL xs ys, Lib.compareBytes s.data.toList t.data.toList]
set_option maxRecDepth 20000 in
set_option maxHeartbeats 2000000 in
theorem before_any (A B : Option Addr) (n m c d : Nat) (xs ys : List Int) (s t : ByteArray) (w : World) (hx : ReadI w w.heap.size A n xs) (hy : ReadI w w.heap.size B m ys) (hn : n ≤ maxLen) (hm : m ≤ maxLen) :
    Calls Tryz.prog 164 #[.agg #[.slice A n c, .string s], .agg #[.slice B m d, .string t]] w fun e w' => e = .returned (.int .i64 (beforeV xs ys s t)) ∧ Below w.heap.size w w' := by
  have e1 := fun W (hb : Below w.heap.size w W) => (compareL_any A B n m c d xs ys W _ _ (hx.below hb) (hy.below hb) hn hm).mono (fun _ _ ⟨h1, h2⟩ => (⟨h1, h2.symm⟩ : _ ∧ _))
  have e2 := fun W => (Tryz.strings_Compare s t W)
  have E1 := Lib.hid e1; have E2 := Lib.hid e2; clear e1 e2 hx hy hn hm
  go_enter Tryz.func164, Tryz.ntmps164
  go_wp2
  refine region_tail 10 (by kernel_rfl) (by kernel_rfl) ?_
  simp only [List.take_succ_cons, List.take_zero, List.drop_succ_cons, List.drop_zero]
  still_step
  still_step
  still_step
  still_step
  still_call (E1.out _ (by exact (((Below.refl _ _).alloc (Nat.le_refl _) _).alloc (by simp) _).drew))
  still_step
  still_step
  still_step
  still_step
  still_call (E2.out _)
  refine wpStill_nil ?_
  go_wp2_with fail
  refine (orL_any _ 2 _ [cmpL xs ys, Lib.compareBytes s.data.toList t.data.toList] _ (w.heap.size + 3) ?hr (by unfold maxLen; omega)).mono ?_
  case hr => exact (by simpa using (reads_new ((w.alloc (.cells #[.slice A n c, .string s] 215)).alloc (.cells #[.slice B m d, .string t] 215)) 3 [.int .i64 (cmpL xs ys), .int .i64 (Lib.compareBytes s.data.toList t.data.toList)]) : Reads _ _ _ _ _ _).drew
  rintro e w' ⟨rfl, rfl⟩
  go_wp2
  go_ret
  exact ⟨rfl, (((((Below.refl _ w).alloc (Nat.le_refl _) _).alloc (by simp) _)).alloc (by simp; omega) _).drew⟩
end Go.Proofs.YtgkpoopiamicnaaGreatDoor
namespace Go.Proofs.YtgkpoopiamicnaaGreatDoor
open Go.RowKit

set_option maxRecDepth 20000 in
set_option maxHeartbeats 2000000 in
theorem refkeys_any (A B : Option Addr) (n m c d : Nat) (xs ys : List Int) (w : World) (K L : Nat) (hx : ReadI w K A n xs) (hy : ReadI w L B m ys) (hn : n ≤ maxLen) (hm : m ≤ maxLen) :
    Calls Tryz.prog 167 #[.slice A n c, .slice B m d] w (Quietly w (.int .i64 (cmpL xs ys))) := by
  unfold maxLen at hn hm
  have HX := Lib.hid hx.len; have HY := Lib.hid hy.len
  go_enter Tryz.func167, Tryz.ntmps167
  go_wp2
  go_loopw [5] (fun i wr => ∃ (k q : Nat), k ≤ n ∧ k ≤ m ∧ i = .int .i64 k ∧ wr = w.drewN q ∧ xs.take k = ys.take k) (fun i _ => n - (RowKit.intOf i).toNat)
  case atStart => exact ⟨0, 0, by omega, by omega, rfl, rfl, by simp⟩
  case round =>
    obtain ⟨k, q, hk, hkm, rfl, rfl, he⟩ := hrel
    have hcd := cmpL_drop xs ys k he (by rw [HX.out]; exact hk) (by rw [HY.out]; exact hkm)
    have HE := Lib.hid he; have HCD := Lib.hid hcd; clear he hcd
    by_cases hlt : k < n
    · have hkx : k < xs.length := by rw [HX.out]; exact hlt
      obtain ⟨ad, rfl, _, hcx⟩ := hx.at_ (k := k) hkx
      by_cases hltm : k < m
      · have hky : k < ys.length := by rw [HY.out]; exact hltm
        obtain ⟨ad', rfl, _, hcy⟩ := hy.at_ (k := k) hky
        have h1 : cmpL xs ys = if cmpI xs[k] ys[k] = 0 then cmpL (xs.drop (k + 1)) (ys.drop (k + 1)) else cmpI xs[k] ys[k] := by
          rw [HCD.out, List.drop_eq_getElem_cons hkx, List.drop_eq_getElem_cons hky, cmpL]
        have h2 : xs[k] = ys[k] → xs.take (k + 1) = ys.take (k + 1) := fun e => by
          rw [List.take_succ_eq_append_getElem hkx, List.take_succ_eq_append_getElem hky, HE.out, e]
        generalize xs[k] = x at hcx h1 h2
        generalize ys[k] = y at hcy h1 h2
        have H1 := Lib.hid h1; have H2 := Lib.hid h2; clear h1 h2
        by_cases hxy : x < y
        · have h3 : cmpL xs ys = -1 := by rw [H1.out]; unfold cmpI; rw [if_pos hxy]; rfl
          have H3 := Lib.hid h3; clear h3
          go_wp2_with fail
          go_quiet (fail)
          go_wp2
          go_ret
          rw [H3.out]; exact ⟨rfl, _, World.drewN_drewN _ _ _⟩
        · by_cases hyx : y < x
          · have h3 : cmpL xs ys = 1 := by rw [H1.out]; unfold cmpI; rw [if_neg hxy, if_pos hyx]; rfl
            have H3 := Lib.hid h3; clear h3
            go_wp2_with fail
            go_quiet (fail)
            go_wp2_with fail
            go_quiet (fail)
            go_wp2
            go_ret
            rw [H3.out]; exact ⟨rfl, by simp only [World.drewN_drewN]; exact ⟨_, rfl⟩⟩
          · obtain rfl : x = y := by omega
            have h3 := H2.out rfl
            have H3 := Lib.hid h3; clear h3
            go_wp2_with fail
            go_quiet (fail)
            go_wp2_with fail
            go_quiet (fail)
            go_wp2
            go_roundw
            case rel => exact ⟨k + 1, _, by omega, by omega, by go_num, rfl, H3.out⟩
            case measure => simp [RowKit.intOf]; omega
      · have h1 : cmpL xs ys = 1 := by
          have hdy : ys.drop k = [] := List.drop_eq_nil_of_le (by rw [HY.out]; omega)
          rw [HCD.out, List.drop_eq_getElem_cons hkx, hdy]; rfl
        have H1 := Lib.hid h1; clear h1
        go_wp2
        go_ret
        rw [H1.out]; exact ⟨rfl, q, rfl⟩
    · have hdx : xs.drop k = [] := List.drop_eq_nil_of_le (by rw [HX.out]; omega)
      by_cases hltm : k < m
      · have h1 : cmpL xs ys = -1 := by
          rw [HCD.out, hdx, List.drop_eq_getElem_cons (by rw [HY.out]; exact hltm)]; rfl
        have H1 := Lib.hid h1; clear h1 hdx
        go_wp2
        go_ret
        rw [H1.out]; exact ⟨rfl, q, rfl⟩
      · have h1 : cmpL xs ys = 0 := by
          have hdy : ys.drop k = [] := List.drop_eq_nil_of_le (by rw [HY.out]; omega)
          rw [HCD.out, hdx, hdy]; rfl
        have H1 := Lib.hid h1; clear h1 hdx
        go_wp2
        go_ret
        rw [H1.out]; exact ⟨rfl, q, rfl⟩
end Go.Proofs.YtgkpoopiamicnaaGreatDoor
namespace Go.Proofs.YtgkpoopiamicnaaGreatDoor
open Go.RowKit

abbrev Res := Int × List (ByteArray × Int)
def errTwo (r1 r2 : Res) : Int := if r1.1 = 0 then r2.1 else r1.1
def TwoPost (w : World) (r1 r2 : Res) (s t : ByteArray) (e : Ending) (w' : World) : Prop :=
  ∃ (A B : Option Addr) (n m c d : Nat) (xs ys : List Int) (s' t' : ByteArray), e = .returned (.tuple #[.agg #[.slice A n c, .string s'], .agg #[.slice B m d, .string t'], .int .i64 (errTwo r1 r2)]) ∧
    ReadI w' w'.heap.size A n xs ∧ ReadI w' w'.heap.size B m ys ∧ n ≤ maxLen ∧ m ≤ maxLen ∧ Below w.heap.size w w' ∧ (errTwo r1 r2 = 0 → xs = keyS r1.2 ∧ ys = keyS r2.2 ∧ s' = s ∧ t' = t)
theorem KeyPost.form {w w' : World} {r : Res} {e : Ending} (h : KeyPost w r e w') :
    ∃ A n c, e = .returned (.tuple #[.slice A n c, .int .i64 r.1]) ∧ ReadI w' w'.heap.size A n (keyS r.2) ∧ n ≤ maxLen ∧ Below w.heap.size w w' := by
  obtain ⟨v, rfl, ho, hb⟩ := h
  obtain ⟨A, c, rfl, h1, h2⟩ := ownsRow_form ho
  exact ⟨A, _, c, rfl, Reads.of_own ho, by omega, hb⟩

theorem _root_.Go.World.ownsRow.keepSet {w : World} {base : Nat} {e : TypeId} {n : Nat} {v : Value} {xs : List Value} (h : w.ownsRow base e 1 v n xs) {a : Addr} (ha : a.block < base) (u : Value) : (w.setCell a u).ownsRow base e 1 v n xs := ownsRow_setCell_below h ha u
theorem KeyPost.formO {w w' : World} {r : Res} {e : Ending} (h : KeyPost w r e w') :
    ∃ A n c, e = .returned (.tuple #[.slice A n c, .int .i64 r.1]) ∧ w'.ownsRow w.heap.size 3 1 (.slice A n c) n (ints (keyS r.2)) ∧ n ≤ maxLen ∧ Below w.heap.size w w' := by
  obtain ⟨v, rfl, ho, hb⟩ := h
  obtain ⟨A, c, rfl, h1, h2⟩ := ownsRow_form ho
  exact ⟨A, _, c, rfl, ho, by omega, hb⟩

set_option maxRecDepth 20000 in
set_option maxHeartbeats 2000000 in
theorem two_any (p : Option Addr) (og : Option (List (List ByteArray))) (s t : ByteArray) (w : World) (hA : AlphO w p og) :
    Calls Tryz.prog 163 #[.pointer p, .string s, .string t] w (TwoPost w (readResO og s) (readResO og t) s t) := by
  have k1 := fun W (hb : Below w.heap.size w W) => (keyO_any p og s W (hA.below hb)).mono fun _ _ h => h.formO
  have k2 := fun W (hb : Below w.heap.size w W) => (keyO_any p og t W (hA.below hb)).mono fun _ _ h => h.formO
  generalize readResO og s = r1 at k1
  generalize readResO og t = r2 at k2
  have K1 := Lib.hid k1; have K2 := Lib.hid k2; clear k1 k2 hA
  obtain ⟨W0, hW0⟩ : ∃ W0, (w.alloc (.cells #[.slice none 0 0, .string ⟨#[]⟩] 215)).alloc (.cells #[.slice none 0 0, .string ⟨#[]⟩] 215) = W0 := ⟨_, rfl⟩
  have hbW : Below w.heap.size w W0 := by rw [← hW0]; exact ((Below.refl _ w).alloc (Nat.le_refl _) _).alloc (by simp) _
  have hsz : W0.heap.size = w.heap.size + 2 := by rw [← hW0]; simp
  have b0 : Blk W0 w.heap.size 215 #[.slice none 0 0, .string ⟨#[]⟩] := by rw [← hW0]; exact (Blk.new w _ _).alloc _
  have b1 : Blk W0 (w.heap.size + 1) 215 #[.slice none 0 0, .string ⟨#[]⟩] := by
    rw [← hW0]
    have := Blk.new (w.alloc (.cells #[.slice none 0 0, .string ⟨#[]⟩] 215)) 215 #[.slice none 0 0, .string ⟨#[]⟩]
    rwa [World.size_alloc] at this
  have HW0 := Lib.hid hW0; have HSZ := Lib.hid hsz; clear hW0 hsz
  by_cases h1 : r1.1 = 0
  · have H1 := Lib.hid h1; clear h1
    by_cases h2 : r2.1 = 0
    · have H2 := Lib.hid h2; clear h2
      go_enter Tryz.func163, Tryz.ntmps163
      go_wp2_with fail
      rw [HW0.out]
      refine (K1.out _ hbW).mono ?_
      rintro e w1 ⟨A, n, c, rfl, ho, hn, hb⟩
      rw [H1.out]
      go_wp2_with fail
      refine (K2.out _ (hbW.trans (hb.mono hbW.size))).mono ?_
      rintro e w2 ⟨B, m, d, rfl, ho2, hm, hb2⟩
      have hb3 := hb.trans (hb2.mono hb.size)
      have c00 := (b0.below hb3 (by rw [HSZ.out]; omega)).cell 0
      have c01 := (b0.below hb3 (by rw [HSZ.out]; omega)).cell 1
      have c10 := (b1.below hb3 (by rw [HSZ.out]; omega)).cell 0
      have c11 := (b1.below hb3 (by rw [HSZ.out]; omega)).cell 1
      have f00 := (b0.below hb3 (by rw [HSZ.out]; omega)).frozen 0
      have f01 := (b0.below hb3 (by rw [HSZ.out]; omega)).frozen 1
      have f10 := (b1.below hb3 (by rw [HSZ.out]; omega)).frozen 0
      have f11 := (b1.below hb3 (by rw [HSZ.out]; omega)).frozen 1
      simp only [List.getElem?_toArray, List.getElem?_cons_zero, List.getElem?_cons_succ] at c00 c01 c10 c11
      have hsz1 : w.heap.size + 2 ≤ w1.heap.size := by have := hb.size; rw [HSZ.out] at this; exact this
      rw [H2.out]
      go_wp2
      have hB := hbW.trans (hb3.mono hbW.size)
      have o1 := ((((own_below ho hb2).keepSet (a := ⟨w.heap.size, 0, none⟩) (by rw [HSZ.out]; simp) (.slice A n c)).keepSet (a := ⟨w.heap.size, 1, none⟩) (by rw [HSZ.out]; simp) (.string s)).keepSet (a := ⟨w.heap.size + 1, 0, none⟩) (by rw [HSZ.out]; simp) (.slice B m d)).keepSet (a := ⟨w.heap.size + 1, 1, none⟩) (by rw [HSZ.out]; simp) (.string t)
      have o2 := (((ho2.keepSet (a := ⟨w.heap.size, 0, none⟩) (by simp; omega) (.slice A n c)).keepSet (a := ⟨w.heap.size, 1, none⟩) (by simp; omega) (.string s)).keepSet (a := ⟨w.heap.size + 1, 0, none⟩) (by simp; omega) (.slice B m d)).keepSet (a := ⟨w.heap.size + 1, 1, none⟩) (by simp; omega) (.string t)
      refine bodyPost_ret (v := .tuple #[.agg #[.slice A n c, .string s], .agg #[.slice B m d, .string t], .int .i64 0]) (by simp [results, Tryz.results163, go_sem, c00, c01, c10, c11]) rfl ?_
      have hE : errTwo r1 r2 = 0 := by unfold errTwo; rw [if_pos H1.out]; exact H2.out
      refine ⟨A, B, n, m, c, d, _, _, s, t, by rw [hE], Reads.of_own o1, Reads.of_own o2, hn, hm, ?_, fun _ => ⟨rfl, rfl, rfl, rfl⟩⟩
      exact (((hB.setCell (by simp) _).setCell (by simp) _).setCell (by simp) _).setCell (by simp) _
    · have h2b : (r2.1 != 0) = true := by rw [bne_iff_ne]; exact h2
      have H2 := Lib.hid h2; clear h2
      go_enter Tryz.func163, Tryz.ntmps163
      go_wp2_with fail
      rw [HW0.out]
      refine (K1.out _ hbW).mono ?_
      rintro e w1 ⟨A, n, c, rfl, ho, hn, hb⟩
      rw [H1.out]
      go_wp2_with fail
      refine (K2.out _ (hbW.trans (hb.mono hbW.size))).mono ?_
      rintro e w2 ⟨B, m, d, rfl, ho2, hm, hb2⟩
      have hb3 := hb.trans (hb2.mono hb.size)
      have c00 := (b0.below hb3 (by rw [HSZ.out]; omega)).cell 0
      have c01 := (b0.below hb3 (by rw [HSZ.out]; omega)).cell 1
      have c10 := (b1.below hb3 (by rw [HSZ.out]; omega)).cell 0
      have c11 := (b1.below hb3 (by rw [HSZ.out]; omega)).cell 1
      have f00 := (b0.below hb3 (by rw [HSZ.out]; omega)).frozen 0
      have f01 := (b0.below hb3 (by rw [HSZ.out]; omega)).frozen 1
      have f10 := (b1.below hb3 (by rw [HSZ.out]; omega)).frozen 0
      have f11 := (b1.below hb3 (by rw [HSZ.out]; omega)).frozen 1
      simp only [List.getElem?_toArray, List.getElem?_cons_zero, List.getElem?_cons_succ] at c00 c01 c10 c11
      have hsz1 : w.heap.size + 2 ≤ w1.heap.size := by have := hb.size; rw [HSZ.out] at this; exact this
      go_wp2
      refine bodyPost_ret (v := .tuple #[.agg #[.slice none 0 0, .string ⟨#[]⟩], .agg #[.slice none 0 0, .string ⟨#[]⟩], .int .i64 r2.1]) (by simp [results, Tryz.results163, go_sem, c00, c01, c10, c11]) rfl ?_
      have hE : errTwo r1 r2 = r2.1 := by unfold errTwo; rw [if_pos H1.out]
      refine ⟨none, none, 0, 0, 0, 0, [], [], ⟨#[]⟩, ⟨#[]⟩, by rw [hE], Reads.none_, Reads.none_, by simp, by simp, ?_, fun h => absurd h (by rw [hE]; exact H2.out)⟩
      have hB := hbW.trans (hb3.mono hbW.size)
      exact (((hB.setCell (by simp) _).setCell (by simp) _).setCell (by simp) _).setCell (by simp) _
  · have h1b : (r1.1 != 0) = true := by rw [bne_iff_ne]; exact h1
    have H1 := Lib.hid h1; clear h1
    go_enter Tryz.func163, Tryz.ntmps163
    go_wp2_with fail
    rw [HW0.out]
    refine (K1.out _ hbW).mono ?_
    rintro e w1 ⟨A, n, c, rfl, ho, hn, hb⟩
    have c00 := (b0.below hb (by rw [HSZ.out]; omega)).cell 0
    have c01 := (b0.below hb (by rw [HSZ.out]; omega)).cell 1
    have c10 := (b1.below hb (by rw [HSZ.out]; omega)).cell 0
    have c11 := (b1.below hb (by rw [HSZ.out]; omega)).cell 1
    have f00 := (b0.below hb (by rw [HSZ.out]; omega)).frozen 0
    have f01 := (b0.below hb (by rw [HSZ.out]; omega)).frozen 1
    have f10 := (b1.below hb (by rw [HSZ.out]; omega)).frozen 0
    have f11 := (b1.below hb (by rw [HSZ.out]; omega)).frozen 1
    simp only [List.getElem?_toArray, List.getElem?_cons_zero, List.getElem?_cons_succ] at c00 c01 c10 c11
    go_wp2
    refine bodyPost_ret (v := .tuple #[.agg #[.slice none 0 0, .string ⟨#[]⟩], .agg #[.slice none 0 0, .string ⟨#[]⟩], .int .i64 r1.1]) (by simp [results, Tryz.results163, go_sem, c00, c01, c10, c11]) rfl ?_
    have hE : errTwo r1 r2 = r1.1 := by unfold errTwo; rw [if_neg H1.out]
    refine ⟨none, none, 0, 0, 0, 0, [], [], ⟨#[]⟩, ⟨#[]⟩, by rw [hE], Reads.none_, Reads.none_, by simp, by simp, ?_, fun h => absurd h (by rw [hE]; exact H1.out)⟩
    have hB := hbW.trans (hb.mono hbW.size)
    exact (((hB.setCell (by simp) _).setCell (by simp) _).setCell (by simp) _).setCell (by simp) _
end Go.Proofs.YtgkpoopiamicnaaGreatDoor
namespace Go.Proofs.YtgkpoopiamicnaaGreatDoor
open Go.RowKit

theorem cmpB_range (a b : List UInt8) : Lib.compareBytes a b = -1 ∨ Lib.compareBytes a b = 0 ∨ Lib.compareBytes a b = 1 := by
  induction a generalizing b with
  | nil => cases b <;> simp [Lib.compareBytes]
  | cons x a ih =>
    cases b with
    | nil => simp [Lib.compareBytes]
    | cons y b =>
      rw [Lib.compareBytes]
      split
      · simp
      · split
        · simp
        · exact ih b
theorem cmpB_less (a b : List UInt8) : Op.bytesLess a b = decide (Lib.compareBytes a b = -1) := by
  induction a generalizing b with
  | nil => cases b <;> simp [Lib.compareBytes, Op.bytesLess]
  | cons x a ih =>
    cases b with
    | nil => simp [Lib.compareBytes, Op.bytesLess]
    | cons y b =>
      rw [Lib.compareBytes, Op.bytesLess, ih b]
      by_cases h : x < y
      · rw [if_pos h]; simp [h]
      · rw [if_neg h]
        by_cases h' : y < x
        · have : x ≠ y := fun e => by subst e; exact h h'
          rw [if_pos h']; simp [h, this]
        · have : x = y := UInt8.le_antisymm (UInt8.not_lt.1 h') (UInt8.not_lt.1 h)
          rw [if_neg h']; simp [this]
theorem cmpB_eq (a b : List UInt8) : Lib.compareBytes a b = 0 ↔ a = b := by
  induction a generalizing b with
  | nil => cases b <;> simp [Lib.compareBytes]
  | cons x a ih =>
    cases b with
    | nil => simp [Lib.compareBytes]
    | cons y b =>
      rw [Lib.compareBytes]
      by_cases h : x < y
      · have : x ≠ y := fun e => by subst e; exact absurd h (UInt8.lt_irrefl _)
        rw [if_pos h]; simp [this]
      · rw [if_neg h]
        by_cases h' : y < x
        · have : x ≠ y := fun e => by subst e; exact h h'
          rw [if_pos h']; simp [this]
        · have : x = y := UInt8.le_antisymm (UInt8.not_lt.1 h') (UInt8.not_lt.1 h)
          rw [if_neg h', ih b]; simp [this]
theorem cmpL_eq (a b : List Int) : cmpL a b = 0 ↔ a = b := by
  induction a generalizing b with
  | nil => cases b <;> simp [cmpL]
  | cons x a ih =>
    cases b with
    | nil => simp [cmpL]
    | cons y b =>
      rw [cmpL]
      by_cases h : cmpI x y = 0
      · rw [if_pos h, ih b, cmpI_zero h]; simp
      · have : x ≠ y := fun e => h (by rw [e, cmpI_self])
        rw [if_neg h]; simp [h, this]
theorem beforeV_eq (xs ys : List Int) (s t : ByteArray) : beforeV xs ys s t = if cmpL xs ys = 0 then Lib.compareBytes (bl s) (bl t) else cmpL xs ys := by
  unfold beforeV
  simp only [orL]
  split
  · split
    · rename_i h; exact h.symm
    · rfl
  · rfl
def orderRes (r1 r2 : Res) (s t : ByteArray) : Int × Int := if errTwo r1 r2 = 0 then (beforeV (keyS r1.2) (keyS r2.2) s t, 0) else (0, errTwo r1 r2)
def sameRes (r1 r2 : Res) : Bool := decide (errTwo r1 r2 = 0) && decide (keyS r1.2 = keyS r2.2)
def OrderPost (w : World) (v : Int × Int) (e : Ending) (w' : World) : Prop := e = .returned (.tuple #[.int .i64 v.1, .int .i64 v.2]) ∧ Below w.heap.size w w'
def SamePost (w : World) (b : Bool) (e : Ending) (w' : World) : Prop := e = .returned (.bool b) ∧ Below w.heap.size w w'
theorem below_drewN39 {B : Nat} {a w : World} (h : Below B a w) (n : Nat) : Below B a (w.drewN n) := ⟨h.os, h.tape, h.output, h.size, h.block⟩

set_option maxRecDepth 20000 in
set_option maxHeartbeats 2000000 in
theorem refOrder_any (p : Option Addr) (og : Option (List (List ByteArray))) (s t : ByteArray) (w : World) (hA : RefO w p og) (hG : SmallO og) (hs : s.size ≤ maxLen) (ht : t.size ≤ maxLen) :
    Calls Tryz.prog 117 #[.pointer p, .string s, .string t] w (OrderPost w (orderRes (readResO og s) (readResO og t) s t)) := by
  have k1 := (refKeyO_any p og s w hA hG hs).mono fun _ _ h => h.form
  have k2 := fun W (hb : Below w.heap.size w W) => (refKeyO_any p og t W (hA.below hb) hG ht).mono fun _ _ h => h.form
  generalize readResO og s = r1 at k1
  generalize readResO og t = r2 at k2
  have K2 := Lib.hid k2; clear k2 hA hG hs ht
  obtain ⟨e1, l1⟩ := r1
  obtain ⟨e2, l2⟩ := r2
  by_cases h1 : e1 = 0
  · subst h1
    by_cases h2 : e2 = 0
    · subst h2
      have hv := beforeV_eq (keyS l1) (keyS l2) s t
      have hO : orderRes (0, l1) (0, l2) s t = (beforeV (keyS l1) (keyS l2) s t, 0) := rfl
      rw [hO, hv]; clear hO hv
      have hkk := fun A B n m c d W K L hx hy hn hm => refkeys_any A B n m c d (keyS l1) (keyS l2) W K L hx hy hn hm
      have HKK := Lib.hid hkk; clear hkk
      have hkr : ∃ k, cmpL (keyS l1) (keyS l2) = k := ⟨_, rfl⟩
      obtain ⟨k, hk⟩ := hkr
      have HK := Lib.hid hk
      by_cases hk0 : k = 0
      · subst hk0
        rw [hk, if_pos rfl]; clear hk
        have c1 := cmpB_less (bl s) (bl t)
        have c2 := cmpB_eq (bl s) (bl t)
        have hsl : s.toList = bl s := Lib.toList_data s
        have htl : t.toList = bl t := Lib.toList_data t
        rcases cmpB_range (bl s) (bl t) with hc | hc | hc
        · have hl : Op.bytesLess s.toList t.toList = true := by rw [hsl, htl, c1, hc]; rfl
          rw [hc]; clear hc c1 c2 hsl htl
          go_enter Tryz.func117, Tryz.ntmps117
          go_wp2_with fail
          refine k1.mono ?_
          rintro e w1 ⟨A, n, c, rfl, hr1, hn, hb1⟩
          go_wp2_with fail
          refine (K2.out _ hb1).mono ?_
          rintro e w2 ⟨B, m, d, rfl, hr2, hm, hb2⟩
          go_wp2_with fail
          refine (HKK.out A B n m c d _ _ _ (hr1.below hb2) hr2 hn hm).mono ?_
          rw [HK.out]
          rintro e w3 ⟨rfl, q, rfl⟩
          go_wp2
          go_ret2
          exact ⟨rfl, below_drewN39 (hb1.trans (hb2.mono hb1.size)) _⟩
        · have hl : Op.bytesLess s.toList t.toList = false := by rw [hsl, htl, c1, hc]; rfl
          have he : (s.toList == t.toList) = true := by rw [hsl, htl, beq_iff_eq]; exact c2.1 hc
          rw [hc]; clear hc c1 c2 hsl htl
          go_enter Tryz.func117, Tryz.ntmps117
          go_wp2_with fail
          refine k1.mono ?_
          rintro e w1 ⟨A, n, c, rfl, hr1, hn, hb1⟩
          go_wp2_with fail
          refine (K2.out _ hb1).mono ?_
          rintro e w2 ⟨B, m, d, rfl, hr2, hm, hb2⟩
          go_wp2_with fail
          refine (HKK.out A B n m c d _ _ _ (hr1.below hb2) hr2 hn hm).mono ?_
          rw [HK.out]
          rintro e w3 ⟨rfl, q, rfl⟩
          go_wp2
          go_ret2
          exact ⟨rfl, below_drewN39 (hb1.trans (hb2.mono hb1.size)) _⟩
        · have hl : Op.bytesLess s.toList t.toList = false := by rw [hsl, htl, c1, hc]; rfl
          have he : (s.toList == t.toList) = false := by rw [hsl, htl, beq_eq_false_iff_ne]; exact fun h => absurd (c2.2 h) (by rw [hc]; decide)
          rw [hc]; clear hc c1 c2 hsl htl
          go_enter Tryz.func117, Tryz.ntmps117
          go_wp2_with fail
          refine k1.mono ?_
          rintro e w1 ⟨A, n, c, rfl, hr1, hn, hb1⟩
          go_wp2_with fail
          refine (K2.out _ hb1).mono ?_
          rintro e w2 ⟨B, m, d, rfl, hr2, hm, hb2⟩
          go_wp2_with fail
          refine (HKK.out A B n m c d _ _ _ (hr1.below hb2) hr2 hn hm).mono ?_
          rw [HK.out]
          rintro e w3 ⟨rfl, q, rfl⟩
          go_wp2
          go_ret2
          exact ⟨rfl, below_drewN39 (hb1.trans (hb2.mono hb1.size)) _⟩
      · rw [hk, if_neg hk0]; clear hk
        have hkb : (k == 0) = false := by rw [beq_eq_false_iff_ne]; exact hk0
        clear hk0
        go_enter Tryz.func117, Tryz.ntmps117
        go_wp2_with fail
        refine k1.mono ?_
        rintro e w1 ⟨A, n, c, rfl, hr1, hn, hb1⟩
        go_wp2_with fail
        refine (K2.out _ hb1).mono ?_
        rintro e w2 ⟨B, m, d, rfl, hr2, hm, hb2⟩
        go_wp2_with fail
        refine (HKK.out A B n m c d _ _ _ (hr1.below hb2) hr2 hn hm).mono ?_
        rw [HK.out]
        rintro e w3 ⟨rfl, q, rfl⟩
        go_wp2
        go_ret2
        exact ⟨rfl, below_drewN39 (hb1.trans (hb2.mono hb1.size)) _⟩
    · have hO : orderRes (0, l1) (e2, l2) s t = (0, e2) := by
        show (if e2 = 0 then _ else _) = _
        rw [if_neg h2]; rfl
      rw [hO]; clear hO
      have hb2' : (e2 != 0) = true := by rw [bne_iff_ne]; exact h2
      clear h2
      go_enter Tryz.func117, Tryz.ntmps117
      go_wp2_with fail
      refine k1.mono ?_
      rintro e w1 ⟨A, n, c, rfl, hr1, hn, hb1⟩
      go_wp2_with fail
      refine (K2.out _ hb1).mono ?_
      rintro e w2 ⟨B, m, d, rfl, hr2, hm, hb2⟩
      go_wp2
      go_ret2
      exact ⟨rfl, hb1.trans (hb2.mono hb1.size)⟩
  · have hO : orderRes (e1, l1) (e2, l2) s t = (0, e1) := by
      have : errTwo (e1, l1) (e2, l2) = e1 := by show (if e1 = 0 then _ else _) = _; rw [if_neg h1]
      unfold orderRes; rw [this, if_neg h1]
    rw [hO]; clear hO
    have hb1' : (e1 != 0) = true := by rw [bne_iff_ne]; exact h1
    clear h1
    go_enter Tryz.func117, Tryz.ntmps117
    go_wp2_with fail
    refine k1.mono ?_
    rintro e w1 ⟨A, n, c, rfl, hr1, hn, hb1⟩
    go_wp2
    go_ret2
    exact ⟨rfl, hb1⟩

end Go.Proofs.YtgkpoopiamicnaaGreatDoor
