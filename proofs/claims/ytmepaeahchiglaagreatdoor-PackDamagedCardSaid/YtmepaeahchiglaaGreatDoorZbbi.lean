/-
  Plain facts of layer 43: a beginning of a project is none. Conditions: none.
-/
import Derived.Test.YtmepaeahchiglaaGreatDoorZbbd
import Derived.Test.YtmepaeahchiglaaGreatDoorZbba
import Derived.Test.YtmepaeahchiglaaGreatDoorZbPkCl
namespace Go.Proofs.YtmepaeahchiglaaGreatDoor
open Go.RowKit Go.Lib

/-! More bytes behind change nothing. -/
def Ext {α : Type} (get : Rdr α) : Prop := ∀ b x r t, get b = some (x, r) → get (b ++ t) = some (x, r ++ t)
theorem ext_ret {α : Type} (x : α) : Ext (fun r => some (x, r)) := fun b y r t h => by
  injection h with h
  obtain ⟨rfl, rfl⟩ := Prod.mk.inj h
  rfl
theorem ext_then {α β : Type} {g : Rdr α} {f : α → Rdr β} (h1 : Ext g) (h2 : ∀ x, Ext (f x)) : Ext (thenR g f) := fun b y r t h => by
  obtain ⟨x, s, e1, e2⟩ := thenR_out h
  rw [thenR_some (h1 _ _ _ t e1)]
  exact h2 _ _ _ _ t e2
theorem ext_readK : ∀ f k acc, Ext (readK f k acc)
  | 0, k, acc => fun b x r t h => by cases h
  | f + 1, k, acc => fun b x r t h => by
    cases b with
    | nil => cases h
    | cons b l =>
      have h' : (if 128 ≤ b then readK f (k + 1) (acc + 128 ^ k * (b % 128)) l else if (b = 0 ∧ 0 < k) ∨ 4294967296 ≤ acc + 128 ^ k * b then none else some (acc + 128 ^ k * b, l)) = some (x, r) := h
      show (if 128 ≤ b then readK f (k + 1) (acc + 128 ^ k * (b % 128)) (l ++ t) else if (b = 0 ∧ 0 < k) ∨ 4294967296 ≤ acc + 128 ^ k * b then none else some (acc + 128 ^ k * b, l ++ t)) = some (x, r ++ t)
      split at h'
      · rename_i h1
        rw [if_pos h1]
        exact ext_readK f _ _ _ _ _ t h'
      · rename_i h1
        rw [if_neg h1]
        split at h'
        · cases h'
        · rename_i h2
          rw [if_neg h2]
          injection h' with h'
          obtain ⟨rfl, rfl⟩ := Prod.mk.inj h'
          rfl
theorem ext_num : Ext readN := ext_readK _ _ _
theorem ext_count : Ext countR := ext_then ext_num fun n b x r t h => by
  have h' : (if n ≤ b.length then some (n, b) else none) = some (x, r) := h
  show (if n ≤ (b ++ t).length then some (n, b ++ t) else none) = some (x, r ++ t)
  split at h'
  · rename_i h1
    rw [if_pos (by rw [List.length_append]; omega)]
    injection h' with h'
    obtain ⟨rfl, rfl⟩ := Prod.mk.inj h'
    rfl
  · cases h'
theorem ext_snd : Ext sndR := ext_then ext_num fun _ => ext_then ext_num fun _ => ext_ret _
theorem ext_flag : Ext flagR := ext_then ext_num fun n b x r t h => by
  have h' : (if 1 < n then none else some (decide (n = 1), b)) = some (x, r) := h
  show (if 1 < n then none else some (decide (n = 1), b ++ t)) = some (x, r ++ t)
  split at h'
  · cases h'
  · rename_i h1
    rw [if_neg h1]
    injection h' with h'
    obtain ⟨rfl, rfl⟩ := Prod.mk.inj h'
    rfl
theorem ext_many {α : Type} {get : Rdr α} (h : Ext get) : ∀ n, Ext (manyR get n)
  | 0 => ext_ret _
  | n + 1 => ext_then h fun _ => ext_then (ext_many h n) fun _ => ext_ret _
theorem ext_some {α : Type} {get : Rdr α} (h : Ext get) : Ext (someR get) := ext_then ext_count fun n => ext_many h n
theorem ext_manyS {get : Nat → Rdr (Pt × Nat)} (h : ∀ l, Ext (get l)) : ∀ n l, Ext (manyS get n l)
  | 0, _ => ext_ret _
  | n + 1, l => ext_then (h l) fun _ => ext_then (ext_manyS h n _) fun _ => ext_ret _
theorem ext_node {get : Nat → Rdr (Pt × Nat)} (h : ∀ l, Ext (get l)) (left : Nat) : Ext (nodeR get left) := ext_then ext_num fun k => by
  by_cases k1 : k = 1
  · rw [if_pos k1]; exact ext_then ext_snd fun _ => ext_then ext_flag fun _ => ext_ret _
  · rw [if_neg k1]
    by_cases k3 : k = 3 ∨ k = 4
    · rw [if_pos k3]; exact ext_then ext_count fun n => ext_then (ext_manyS h n left) fun _ => ext_ret _
    · rw [if_neg k3]
      by_cases k5 : k = 5
      · rw [if_pos k5]; exact ext_then ext_num fun _ => ext_then ext_num fun _ => ext_then (ext_manyS h 1 left) fun _ => ext_ret _
      · rw [if_neg k5]; exact ext_ret _
theorem ext_pat : ∀ f left, Ext (patR f left)
  | 0, _ => fun b x r t h => by cases h
  | f + 1, 0 => fun b x r t h => by rw [patR_zero] at h; cases h
  | f + 1, left + 1 => fun b x r t h => by rw [patR_succ] at h ⊢; exact ext_node (ext_pat f) left b x r t h
theorem ext_text : Ext textR := fun b x r t h => by
  obtain ⟨n, s, e1, e2⟩ := thenR_out (show thenR countR (fun n r => some (strB (r.take n), r.drop n)) b = some (x, r) from h)
  have hn := countR_le e1
  show thenR countR (fun n r => some (strB (r.take n), r.drop n)) (b ++ t) = some (x, r ++ t)
  rw [thenR_some (ext_count _ _ _ t e1)]
  injection e2 with e2
  obtain ⟨rfl, rfl⟩ := Prod.mk.inj e2
  rw [List.take_append_of_le_length hn, List.drop_append_of_le_length hn]
theorem ext_out : Ext outR := ext_then ext_num fun _ => ext_then ext_num fun _ => ext_then ext_snd fun _ => ext_then ext_num fun _ => ext_then ext_num fun _ => ext_ret _
theorem ext_side : Ext sideR := ext_then (ext_pat _ _) fun _ => ext_ret _
theorem ext_law : Ext lawR := ext_then ext_text fun _ => ext_then ext_side fun _ => ext_then ext_side fun _ => ext_then (ext_some ext_snd) fun _ => ext_then (ext_some ext_out) fun _ => ext_then ext_num fun _ => ext_ret _
theorem ext_form : Ext formR := ext_then ext_flag fun h => by
  cases h with
  | true => exact ext_then (ext_some ext_snd) fun _ => ext_ret _
  | false => exact ext_ret _
theorem ext_hist : Ext histR := ext_then (ext_some (ext_then ext_num fun _ => ext_then ext_text fun _ => ext_ret _)) fun _ => ext_then (ext_some ext_law) fun _ => ext_then (ext_many (ext_some (ext_then ext_num fun _ => ext_ret _)) _) fun _ => ext_ret _
theorem ext_proj : Ext projR := ext_then (ext_some ext_text) fun _ => ext_then (ext_some (ext_then ext_text fun _ => ext_then ext_snd fun _ => ext_ret _)) fun _ => ext_then (ext_some (ext_then ext_text fun _ => ext_then ext_num fun _ => ext_then ext_snd fun _ => ext_ret _)) fun _ => ext_then ext_hist fun _ =>
  ext_then (ext_some ext_form) fun _ => ext_then (ext_some (ext_then ext_text fun _ => ext_then (ext_some ext_form) fun _ => ext_ret _)) fun _ => ext_ret _
/-- A proper beginning of a project's bytes is none. -/
theorem part_whole {p : Pj} (h : projR (projB p) = some (p, [])) {m : Nat} (hm : m < (projB p).length) : projR ((projB p).take m) = none := by
  cases h1 : projR ((projB p).take m) with
  | none => rfl
  | some q =>
    obtain ⟨x, r⟩ := q
    have h2 := ext_proj _ _ _ ((projB p).drop m) h1
    rw [List.take_append_drop, h] at h2
    injection h2 with h2
    obtain ⟨-, h3⟩ := Prod.mk.inj h2
    have h4 : ((projB p).drop m).length = 0 := by
      have := congrArg List.length h3
      rw [List.length_append, List.length_nil] at this
      omega
    rw [List.length_drop] at h4
    omega
end Go.Proofs.YtmepaeahchiglaaGreatDoor
namespace Go.Proofs.YtmepaeahchiglaaGreatDoor
end Go.Proofs.YtmepaeahchiglaaGreatDoor
namespace Go.Proofs.YtmepaeahchiglaaGreatDoor
open Go.RowKit Go.Lib

/-- Bytes with the right checksum behind. -/
theorem getP_sealed {d : List Nat} (h1 : 4 ≤ d.length) (h2 : d.take 4 = magB) : getP (d ++ fourB (sumB d)) = afterR (projR (d.drop 4)) := by
  have hlen : (d ++ fourB (sumB d)).length = d.length + 4 := by rw [List.length_append]; rfl
  have ht : (d ++ fourB (sumB d)).take ((d ++ fourB (sumB d)).length - 4) = d := by rw [hlen, Nat.add_sub_cancel, List.take_left]
  have hd : (d ++ fourB (sumB d)).drop ((d ++ fourB (sumB d)).length - 4) = fourB (sumB d) := by rw [hlen, Nat.add_sub_cancel, List.drop_left]
  rw [getP_main (by omega) (by rw [List.take_append_of_le_length h1, h2]) (by rw [ht, hd]), ht]
/-! Damaged bytes. -/
theorem fourB_inj {a b : Nat} (ha : a < 4294967296) (hb : b < 4294967296) (h : fourB a = fourB b) : a = b := by
  unfold fourB at h
  simp only [List.cons.injEq, and_true] at h
  omega
theorem set_split {l : List Nat} {k y : Nat} (hk : k < l.length) : l = l.take k ++ l[k] :: l.drop (k + 1) ∧ l.set k y = l.take k ++ y :: l.drop (k + 1) := by
  constructor
  · rw [← List.drop_eq_getElem_cons hk, List.take_append_drop]
  · rw [List.set_eq_take_append_cons_drop, if_pos hk]
theorem damaged {p : Pj} (h : projE p = 0) {k y : Nat} (hk : k < (putP p).length) (hy : y < 256) (hne : (putP p)[k] ≠ y) : getP ((putP p).set k y) = (noP, if k < 4 then 10 else 13) := by
  have hb := putP_ok h
  have hby := putP_bytes p
  have hbl := bodyB_four p
  have hblt := bodyB_lt p
  have hlen : (putP p).length = (bodyB p).length + 4 := by rw [hb, List.length_append]; rfl
  have hm : (putP p).take 4 = magB := by rw [hb]; rfl
  by_cases h4 : k < 4
  · rw [if_pos h4]
    refine getP_mag fun e => hne ?_
    have e1 : ((putP p).set k y).take 4 = ((putP p).take 4).set k y := by rw [List.take_set]
    have e2 : (((putP p).set k y).take 4)[k]? = some y := by rw [e1, List.getElem?_set_self (by rw [List.length_take]; omega)]
    rw [e, ← hm, List.getElem?_take_of_lt h4, List.getElem?_eq_getElem hk] at e2
    exact Option.some.inj e2
  · rw [if_neg h4]
    have hl2 : ((putP p).set k y).length = (bodyB p).length + 4 := by rw [List.length_set, hlen]
    have hm2 : ((putP p).set k y).take 4 = magB := by rw [List.take_set, List.set_eq_of_length_le (by rw [List.length_take]; omega), hm]
    refine getP_sum (by omega) hm2 ?_
    rw [hl2, Nat.add_sub_cancel]
    by_cases hkb : k < (bodyB p).length
    · have e1 : (putP p).set k y = (bodyB p).set k y ++ fourB (sumB (bodyB p)) := by rw [hb, List.set_append_left _ _ hkb]
      have hls : ((bodyB p).set k y).length = (bodyB p).length := List.length_set
      rw [e1]
      have ed : ((bodyB p).set k y ++ fourB (sumB (bodyB p))).drop (bodyB p).length = fourB (sumB (bodyB p)) := by rw [← hls, List.drop_left]
      have et : ((bodyB p).set k y ++ fourB (sumB (bodyB p))).take (bodyB p).length = (bodyB p).set k y := by rw [← hls, List.take_left]
      rw [ed, et]
      intro e
      have hg : (putP p)[k] = (bodyB p)[k] := by
        have : (putP p)[k]? = (bodyB p)[k]? := by rw [hb, List.getElem?_append_left hkb]
        rw [List.getElem?_eq_getElem hk, List.getElem?_eq_getElem hkb] at this
        exact Option.some.inj this
      obtain ⟨s1, s2⟩ := set_split (l := bodyB p) (k := k) (y := y) hkb
      have hset : ∀ c ∈ (bodyB p).set k y, c < 256 := fun c hc => by
        rcases List.mem_or_eq_of_mem_set hc with h1 | h1
        · exact hblt c h1
        · rw [h1]; exact hy
      have e2 := fourB_inj (sumB_lt hblt) (sumB_lt hset) e
      rw [s2] at e2
      conv at e2 => lhs; rw [s1]
      exact sum_one _ _ (fun c hc => hblt c (List.mem_of_mem_take hc)) (fun c hc => hblt c (List.mem_of_mem_drop hc)) (hblt _ (List.getElem_mem hkb)) hy (by rw [← hg]; exact hne) e2
    · have e1 : (putP p).set k y = bodyB p ++ (fourB (sumB (bodyB p))).set (k - (bodyB p).length) y := by rw [hb, List.set_append_right _ _ (by omega)]
      rw [e1, List.drop_left, List.take_left]
      intro e
      have hj : k - (bodyB p).length < (fourB (sumB (bodyB p))).length := by show _ < 4; omega
      have e2 : ((fourB (sumB (bodyB p))).set (k - (bodyB p).length) y)[k - (bodyB p).length]? = some y := List.getElem?_set_self hj
      have e3 : (putP p)[k]? = (fourB (sumB (bodyB p)))[k - (bodyB p).length]? := by rw [hb, List.getElem?_append_right (by omega)]
      rw [e, ← e3, List.getElem?_eq_getElem hk] at e2
      exact hne (Option.some.inj e2)
/-- A byte more, a byte less. -/
theorem one_more {p : Pj} (h : projE p = 0) (hk : PjOk p) (hm : Law32 p) (y : Nat) : getP ((bodyB p ++ [y]) ++ fourB (sumB (bodyB p ++ [y]))) = (noP, 10) := by
  have hbl := bodyB_four p
  rw [getP_sealed (by rw [List.length_append]; omega) (by rfl)]
  have e : (bodyB p ++ [y]).drop 4 = projB p ++ [y] := rfl
  rw [e, ext_proj _ _ _ [y] (back_whole h hk hm)]
  rfl
theorem projB_pos (p : Pj) : 0 < (projB p).length := by
  unfold projB allB
  have := numB_pos p.feats.length
  simp only [List.length_append]
  omega
theorem one_less {p : Pj} (h : projE p = 0) (hk : PjOk p) (hm : Law32 p) : getP ((bodyB p).take ((bodyB p).length - 1) ++ fourB (sumB ((bodyB p).take ((bodyB p).length - 1)))) = (noP, 10) := by
  have hp := projB_pos p
  have hl : (bodyB p).length = (projB p).length + 4 := by unfold bodyB magB; simp only [List.length_append, List.length_cons, List.length_nil]; omega
  have e0 : (bodyB p).take ((bodyB p).length - 1) = magB ++ (projB p).take ((projB p).length - 1) := by
    rw [hl, show (projB p).length + 4 - 1 = 4 + ((projB p).length - 1) by omega]
    unfold bodyB
    rw [show (4 : Nat) = magB.length from rfl, List.take_length_add_append]
  rw [e0, getP_sealed (by rw [List.length_append]; show 4 ≤ 4 + _; omega) (by rfl)]
  have e : (magB ++ (projB p).take ((projB p).length - 1)).drop 4 = (projB p).take ((projB p).length - 1) := rfl
  rw [e, part_whole (back_whole h hk hm) (by omega)]
  rfl
end Go.Proofs.YtmepaeahchiglaaGreatDoor
namespace Go.Proofs.YtmepaeahchiglaaGreatDoor
open Go.RowKit Go.Lib

set_option maxRecDepth 20000 in
set_option maxHeartbeats 1000000 in
theorem cloneBig_any (A : Option Addr) (n c : Nat) (xs : List Value) (w : World) (K : Nat) (hr : Reads w K 1 A n xs) (h1 : ∀ u ∈ xs, u.oneCell' = true) (hK : K ≤ w.heap.size) (hn : n ≤ 1000000000) :
    Calls Tryz.prog 13 #[.slice A n c] w fun e w' => ∃ v, e = .returned v ∧ w'.ownsRow w.heap.size 5 1 v n xs ∧ Below w.heap.size w w' := by
  obtain ⟨i0, hi, hz0, hz1, hz2⟩ := info_parts (show (Tryz.prog.info? 5).map (fun i => (i.zero, i.size, i.bytes)) = some (some (.int .u8 0), 1, 1) by kernel_rfl)
  have hl := hr.1
  have hnil := fun (W : World) (a : Option Addr) (n c : Nat) => Lib.run_eql_slice_nil (P := Tryz.prog) W 36 5 a n c 0 0 Tryz.underlying36
  rcases A with _ | ad
  · have h0 : n = 0 := by
      rcases Nat.eq_zero_or_pos n with h | h
      · exact h
      · obtain ⟨_, h', _⟩ := hr.2 h; cases h'
    subst h0
    obtain rfl : xs = [] := List.eq_nil_of_length_eq_zero (by omega)
    go_enter Tryz.func13, Tryz.ntmps13
    go_wp2
    go_ret
    exact ⟨_, rfl, World.ownsRow_nil _ _ _ _, Below.refl _ _⟩
  · have hown := own_empty0 w 5
    have hr' := (hr.more hK).alloc (Nat.le_refl _) (.cells #[] 5)
    go_enter Tryz.func13, Tryz.ntmps13
    go_wp2_with (at_builtin; refine wpList_append_any _ rfl _ _ _ rfl w.heap.size 5 i0 (.int .u8 0) 1 1 Tryz.underlying36 hi hz0 hz1 hz2 rfl (by decide) _ _ _ rfl hown w.heap.size _ _ _ xs rfl hr' h1 (by unfold maxLen; omega) (by omega) (by simp) ?_; intro v' w1 hown' hgrow _)
    have hb1 : Below w.heap.size w w1 := ((Below.refl _ w).alloc (Nat.le_refl _) _).grown hgrow (by simp) (fun g hg => (hown.lt g hg).1)
    clear hgrow
    go_ret
    exact ⟨_, rfl, by simpa using hown', hb1⟩
end Go.Proofs.YtmepaeahchiglaaGreatDoor
