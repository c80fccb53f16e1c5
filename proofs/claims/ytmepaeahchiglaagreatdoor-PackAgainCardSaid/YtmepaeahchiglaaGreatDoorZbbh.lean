/-
  Plain facts of layer 43: what is read has the bytes that were read. Conditions: none.
-/
import Derived.Test.YtmepaeahchiglaaGreatDoorZbbd
import Derived.Test.YtmepaeahchiglaaGreatDoorZbba
namespace Go.Proofs.YtmepaeahchiglaaGreatDoor
open Go.RowKit Go.Lib

/-! What is read has the bytes that were read. -/
abbrev Cn {α : Type} (put : α → List Nat) (get : Rdr α) : Prop := Canon (fun _ => True) put get
theorem cn_of {α : Type} {P : α → Prop} {put : α → List Nat} {get : Rdr α} (h : Canon P put get) : Cn put get := fun b x r hb e => ⟨(h b x r hb e).1, trivial⟩
theorem cn_snd : Cn sndB sndR := cn_of canon_snd
theorem cn_word : Cn wordB wordR := cn_of canon_word
theorem cn_all {α : Type} {put : α → List Nat} {get : Rdr α} (h : Cn put get) : Cn (allB put) (someR get) := cn_of (canon_all h)
theorem suf_bytes {b a r : List Nat} (hb : ∀ c ∈ b, c < 256) (e : b = a ++ r) : ∀ c ∈ r, c < 256 := fun c hc => hb c (by rw [e]; simp [hc])
theorem sbytes_strB {l : List Nat} (h : ∀ c ∈ l, c < 256) : sbytes (strB l) = l := u8_nat h
theorem strB_size (l : List Nat) : (strB l).size = l.length := by
  show (l.map UInt8.ofNat).toArray.size = _
  simp
theorem cn_text : Cn textB textR := fun b x r hb h => by
  obtain ⟨n, s, e1, e2⟩ := thenR_out (show thenR countR (fun n r => some (strB (r.take n), r.drop n)) b = some (x, r) from h)
  have hn := countR_le e1
  obtain ⟨m, s', e3, e4⟩ := thenR_out (show thenR readN (fun n r => if n ≤ r.length then some (n, r) else none) b = some (n, s) from e1)
  obtain ⟨e5, -⟩ := readN_bytes hb e3
  by_cases hle : m ≤ s'.length
  · rw [if_pos hle] at e4
    injection e4 with e4
    obtain ⟨rfl, rfl⟩ := Prod.mk.inj e4
    injection e2 with e2
    obtain ⟨rfl, rfl⟩ := Prod.mk.inj e2
    refine ⟨?_, trivial⟩
    unfold textB
    rw [strB_size, List.length_take, Nat.min_eq_left hn, sbytes_strB (fun c hc => suf_bytes hb e5 c (List.mem_of_mem_take hc)), List.append_assoc, List.take_append_drop]
    exact e5
  · rw [if_neg hle] at e4; cases e4
theorem cn_flag : Cn flagB flagR := fun b x r hb h => by
  obtain ⟨n, s, e1, e2⟩ := thenR_out (show thenR readN (fun n r => if 1 < n then none else some (decide (n = 1), r)) b = some (x, r) from h)
  obtain ⟨e3, -⟩ := readN_bytes hb e1
  by_cases h1 : 1 < n
  · rw [if_pos h1] at e2; cases e2
  · rw [if_neg h1] at e2
    injection e2 with e2
    obtain ⟨rfl, rfl⟩ := Prod.mk.inj e2
    refine ⟨?_, trivial⟩
    unfold flagB
    rw [e3]
    by_cases h2 : n = 1
    · subst h2; rfl
    · rw [decide_eq_false h2, show n = 0 by omega]; rfl
theorem cn_pats {get : Nat → Rdr (Pt × Nat)} (h : ∀ left b p left' r, (∀ c ∈ b, c < 256) → get left b = some ((p, left'), r) → b = patB p ++ r) : ∀ (n left : Nat) (b : List Nat) (l : List Pt) (left' : Nat) (r : List Nat), (∀ c ∈ b, c < 256) → manyS get n left b = some ((l, left'), r) → b = patsB l ++ r ∧ l.length = n
  | 0, left, b, l, left', r, hb, e => by
    injection e with e
    obtain ⟨e1, rfl⟩ := Prod.mk.inj e
    obtain ⟨rfl, -⟩ := Prod.mk.inj e1
    exact ⟨by rw [patsB_nil]; rfl, rfl⟩
  | n + 1, left, b, l, left', r, hb, e => by
    obtain ⟨⟨p, l1⟩, s, h1, e⟩ := thenR_out (show thenR (get left) (fun x => thenR (manyS get n x.2) fun l r => some ((x.1 :: l.1, l.2), r)) b = some ((l, left'), r) from e)
    obtain ⟨⟨l2, l3⟩, t, h2, e⟩ := thenR_out e
    simp only [Option.some.injEq, Prod.mk.injEq] at e
    obtain ⟨⟨rfl, rfl⟩, rfl⟩ := e
    have e1 := h _ _ _ _ _ hb h1
    obtain ⟨e2, e3⟩ := cn_pats h n l1 s l2 l3 t (suf_bytes hb e1) h2
    exact ⟨by rw [e1, e2, patsB_cons, List.append_assoc], by rw [List.length_cons, e3]⟩
theorem cn_node {get : Nat → Rdr (Pt × Nat)} (h : ∀ left b p left' r, (∀ c ∈ b, c < 256) → get left b = some ((p, left'), r) → b = patB p ++ r) {left : Nat} {b : List Nat} {p : Pt} {left' : Nat} {r : List Nat} (hb : ∀ c ∈ b, c < 256) (e : nodeR get left b = some ((p, left'), r)) : b = patB p ++ r := by
  unfold nodeR at e
  obtain ⟨k, s, h1, e⟩ := thenR_out e
  obtain ⟨e1, -⟩ := readN_bytes hb h1
  have hs := suf_bytes hb e1
  split at e
  · rename_i hk
    obtain ⟨sd, t, h2, e⟩ := thenR_out e
    obtain ⟨neg, u, h3, e⟩ := thenR_out e
    simp only [Option.some.injEq, Prod.mk.injEq] at e
    obtain ⟨⟨rfl, rfl⟩, rfl⟩ := e
    have e2 := (cn_snd _ _ _ hs h2).1
    have e3 := (cn_flag _ _ _ (suf_bytes hs e2) h3).1
    rw [patB_mk, if_pos rfl, e1, e2, e3, hk]
    simp only [List.append_assoc]
    rfl
  · rename_i hk1
    split at e
    · rename_i hk
      obtain ⟨n, t, h2, e⟩ := thenR_out e
      obtain ⟨⟨l2, l3⟩, u, h3, e⟩ := thenR_out e
      simp only [Option.some.injEq, Prod.mk.injEq] at e
      obtain ⟨⟨rfl, rfl⟩, rfl⟩ := e
      obtain ⟨m, s', e3, e4⟩ := thenR_out (show thenR readN (fun n r => if n ≤ r.length then some (n, r) else none) s = some (n, t) from h2)
      obtain ⟨e5, -⟩ := readN_bytes hs e3
      by_cases hle : m ≤ s'.length
      · rw [if_pos hle] at e4
        injection e4 with e4
        obtain ⟨rfl, rfl⟩ := Prod.mk.inj e4
        obtain ⟨e6, e7⟩ := cn_pats h _ _ _ _ _ _ (suf_bytes hs e5) h3
        rw [patB_mk, if_neg (by omega), if_pos (by omega), e1, e5, e6, e7]
        simp only [List.append_assoc, Int.toNat_natCast]
      · rw [if_neg hle] at e4; cases e4
    · rename_i hk3
      split at e
      · rename_i hk
        obtain ⟨lo, t, h2, e⟩ := thenR_out e
        obtain ⟨hi, u, h3, e⟩ := thenR_out e
        obtain ⟨⟨l2, l3⟩, v, h4, e⟩ := thenR_out e
        simp only [Option.some.injEq, Prod.mk.injEq] at e
        obtain ⟨⟨rfl, rfl⟩, rfl⟩ := e
        obtain ⟨e2, -⟩ := readN_bytes hs h2
        have hs2 := suf_bytes hs e2
        obtain ⟨e3, -⟩ := readN_bytes hs2 h3
        have hs3 := suf_bytes hs2 e3
        obtain ⟨e6, e7⟩ := cn_pats h _ _ _ _ _ _ hs3 h4
        rw [patB_mk, if_neg (by decide), if_neg (by decide), if_pos rfl, e1, e2, e3, e6, hk, show ((hi : Int) - 1 + 1).toNat = hi by omega]
        simp only [List.append_assoc, Int.toNat_natCast]
        rfl
      · rename_i hk5
        simp only [Option.some.injEq, Prod.mk.injEq] at e
        obtain ⟨⟨rfl, rfl⟩, rfl⟩ := e
        rw [patB_mk, if_neg (by omega), if_neg (by omega), if_neg (by omega), e1]
        simp only [List.append_nil, Int.toNat_natCast]
theorem cn_patR : ∀ (f left : Nat) (b : List Nat) (p : Pt) (left' : Nat) (r : List Nat), (∀ c ∈ b, c < 256) → patR f left b = some ((p, left'), r) → b = patB p ++ r
  | 0, _, _, _, _, _, _, e => by cases e
  | f + 1, left, b, p, left', r, hb, e => by
    cases left with
    | zero => rw [patR_zero] at e; cases e
    | succ left => rw [patR_succ] at e; exact cn_node (cn_patR f) hb e
theorem cn_side : Cn patB sideR := fun b x r hb h => by
  obtain ⟨⟨p, l⟩, s, e1, e2⟩ := thenR_out (show thenR (patR 41 40) (fun x r => some (x.1, r)) b = some (x, r) from h)
  injection e2 with e2
  obtain ⟨rfl, rfl⟩ := Prod.mk.inj e2
  exact ⟨cn_patR _ _ _ _ _ _ hb e1, trivial⟩
theorem cn_out : Cn outB outR := fun b x r hb h => by
  unfold outR at h
  obtain ⟨a, r1, e1, h⟩ := thenR_out h
  obtain ⟨c, r2, e2, h⟩ := thenR_out h
  obtain ⟨s, r3, e3, h⟩ := thenR_out h
  obtain ⟨t, r4, e4, h⟩ := thenR_out h
  obtain ⟨o, r5, e5, h⟩ := thenR_out h
  injection h with h
  obtain ⟨rfl, rfl⟩ := Prod.mk.inj h
  have k1 := (readN_bytes hb e1).1
  have b1 := suf_bytes hb k1
  have k2 := (readN_bytes b1 e2).1
  have b2 := suf_bytes b1 k2
  have k3 := (cn_snd _ _ _ b2 e3).1
  have b3 := suf_bytes b2 k3
  have k4 := (readN_bytes b3 e4).1
  have b4 := suf_bytes b3 k4
  have k5 := (readN_bytes b4 e5).1
  refine ⟨?_, trivial⟩
  unfold outB
  simp only
  rw [k1, k2, k3, k4, k5, show ((a : Int) - 1 + 1).toNat = a by omega]
  simp only [List.append_assoc, Int.toNat_natCast]
theorem cn_law : Cn lawB lawR := fun b x r hb h => by
  unfold lawR at h
  obtain ⟨nm, r1, e1, h⟩ := thenR_out h
  obtain ⟨x1, r2, e2, h⟩ := thenR_out h
  obtain ⟨x2, r3, e3, h⟩ := thenR_out h
  obtain ⟨x3, r4, e4, h⟩ := thenR_out h
  obtain ⟨x4, r5, e5, h⟩ := thenR_out h
  obtain ⟨m, r6, e6, h⟩ := thenR_out h
  injection h with h
  obtain ⟨rfl, rfl⟩ := Prod.mk.inj h
  have k1 := (cn_text _ _ _ hb e1).1
  have b1 := suf_bytes hb k1
  have k2 := (cn_side _ _ _ b1 e2).1
  have b2 := suf_bytes b1 k2
  have k3 := (cn_side _ _ _ b2 e3).1
  have b3 := suf_bytes b2 k3
  have k4 := (cn_word _ _ _ b3 e4).1
  have b4 := suf_bytes b3 k4
  have k5 : r4 = outsB x4 ++ r5 := (cn_all cn_out _ _ _ b4 e5).1
  have b5 := suf_bytes b4 k5
  have k6 := (readN_bytes b5 e6).1
  refine ⟨?_, trivial⟩
  unfold lawB
  simp only
  rw [k1, k2, k3, k4, k5, k6]
  simp only [List.append_assoc, Int.toNat_natCast]
theorem cn_nmd : Cn nmdB nmdR := fun b x r hb h => by
  obtain ⟨s, r1, e1, h⟩ := thenR_out h
  obtain ⟨y, r2, e2, h⟩ := thenR_out h
  injection h with h
  obtain ⟨rfl, rfl⟩ := Prod.mk.inj h
  have k1 := (cn_text _ _ _ hb e1).1
  have k2 := (cn_snd _ _ _ (suf_bytes hb k1) e2).1
  exact ⟨by unfold nmdB; rw [k1, k2, List.append_assoc], trivial⟩
theorem cn_mkd : Cn mkdB mkdR := fun b x r hb h => by
  obtain ⟨s, r1, e1, h⟩ := thenR_out h
  obtain ⟨c, r2, e2, h⟩ := thenR_out h
  obtain ⟨y, r3, e3, h⟩ := thenR_out h
  injection h with h
  obtain ⟨rfl, rfl⟩ := Prod.mk.inj h
  have k1 := (cn_text _ _ _ hb e1).1
  have b1 := suf_bytes hb k1
  have k2 := (readN_bytes b1 e2).1
  have k3 := (cn_snd _ _ _ (suf_bytes b1 k2) e3).1
  exact ⟨by unfold mkdB; simp only; rw [k1, k2, k3]; simp only [List.append_assoc], trivial⟩
theorem cn_nd : Cn ndB ndR := fun b x r hb h => by
  obtain ⟨k, r1, e1, h⟩ := thenR_out h
  obtain ⟨s, r2, e2, h⟩ := thenR_out h
  injection h with h
  obtain ⟨rfl, rfl⟩ := Prod.mk.inj h
  have k1 := (readN_bytes hb e1).1
  have k2 := (cn_text _ _ _ (suf_bytes hb k1) e2).1
  exact ⟨by unfold ndB; simp only; rw [k1, k2, show ((k : Int) - 1 + 1).toNat = k by omega, List.append_assoc], trivial⟩
theorem cn_int : Cn intB intR := fun b x r hb h => by
  obtain ⟨k, r1, e1, h⟩ := thenR_out h
  injection h with h
  obtain ⟨rfl, rfl⟩ := Prod.mk.inj h
  exact ⟨by unfold intB; rw [(readN_bytes hb e1).1, Int.toNat_natCast], trivial⟩
theorem cn_form : Cn formB formR := fun b x r hb h => by
  obtain ⟨f, r1, e1, h⟩ := thenR_out h
  have k1 := (cn_flag _ _ _ hb e1).1
  cases f with
  | true =>
    simp only [if_true] at h
    obtain ⟨y, r2, e2, h⟩ := thenR_out h
    injection h with h
    obtain ⟨rfl, rfl⟩ := Prod.mk.inj h
    have k2 := (cn_word _ _ _ (suf_bytes hb k1) e2).1
    exact ⟨by unfold formB; simp only [if_true]; rw [k1, k2, List.append_assoc], trivial⟩
  | false =>
    simp only [Bool.false_eq_true, if_false] at h
    injection h with h
    obtain ⟨rfl, rfl⟩ := Prod.mk.inj h
    exact ⟨by unfold formB; simp only [Bool.false_eq_true, if_false]; rw [k1, List.append_nil], trivial⟩
theorem cn_en : Cn enB enR := fun b x r hb h => by
  obtain ⟨s, r1, e1, h⟩ := thenR_out h
  obtain ⟨l, r2, e2, h⟩ := thenR_out h
  injection h with h
  obtain ⟨rfl, rfl⟩ := Prod.mk.inj h
  have k1 := (cn_text _ _ _ hb e1).1
  have k2 := (cn_all cn_form _ _ _ (suf_bytes hb k1) e2).1
  exact ⟨by unfold enB; rw [k1, k2, List.append_assoc], trivial⟩
theorem cn_proj : Cn projB projR := fun b x r hb h => by
  obtain ⟨f, r1, e1, h⟩ := thenR_out h
  obtain ⟨s, r2, e2, h⟩ := thenR_out h
  obtain ⟨m, r3, e3, h⟩ := thenR_out h
  obtain ⟨hh, r4, e4, h⟩ := thenR_out h
  obtain ⟨q, r5, e5, h⟩ := thenR_out h
  obtain ⟨e, r6, e6, h⟩ := thenR_out h
  injection h with h
  obtain ⟨rfl, rfl⟩ := Prod.mk.inj h
  obtain ⟨t, s1, f1, e4⟩ := thenR_out e4
  obtain ⟨l, s2, f2, e4⟩ := thenR_out e4
  obtain ⟨o, s3, f3, e4⟩ := thenR_out e4
  injection e4 with e4
  obtain ⟨rfl, rfl⟩ := Prod.mk.inj e4
  have k1 := (cn_all cn_text _ _ _ hb e1).1
  have b1 := suf_bytes hb k1
  have k2 := (cn_all cn_nmd _ _ _ b1 e2).1
  have b2 := suf_bytes b1 k2
  have k3 := (cn_all cn_mkd _ _ _ b2 e3).1
  have b3 := suf_bytes b2 k3
  have k4 := (cn_all cn_nd _ _ _ b3 f1).1
  have b4 := suf_bytes b3 k4
  have k5 := (cn_all cn_law _ _ _ b4 f2).1
  have b5 := suf_bytes b4 k5
  have k6 := (many_canon (cn_all cn_int) _ _ _ _ b5 f3).1
  have b6 := suf_bytes b5 k6
  have k7 := (cn_all cn_form _ _ _ b6 e5).1
  have b7 := suf_bytes b6 k7
  have k8 := (cn_all cn_en _ _ _ b7 e6).1
  refine ⟨?_, trivial⟩
  unfold projB
  simp only
  rw [k1, k2, k3, k4, k5, k6, k7, k8]
  simp only [List.append_assoc]
end Go.Proofs.YtmepaeahchiglaaGreatDoor
namespace Go.Proofs.YtmepaeahchiglaaGreatDoor
open Go.RowKit Go.Lib

/-- What was read is written as it was; if nothing was read it is a project of nothing. -/
theorem getP_cases (bs : List Nat) (hb : ∀ c ∈ bs, c < 256) (hl : bs.length ≤ 1000000000) :
    ((getP bs).2 = 0 ∧ projE (getP bs).1 = 0 ∧ putP (getP bs).1 = bs ∧ PjRd (getP bs).1) ∨ ((getP bs).2 ≠ 0 ∧ (getP bs).1 = noP) := by
  by_cases h1 : bs.length < 8
  · right; rw [getP_short h1]; exact ⟨by decide, rfl⟩
  by_cases h2 : bs.take 4 = magB
  case neg => right; rw [getP_mag h2]; exact ⟨by decide, rfl⟩
  by_cases h3 : bs.drop (bs.length - 4) = fourB (sumB (bs.take (bs.length - 4)))
  case neg => right; rw [getP_sum h1 h2 h3]; exact ⟨by decide, rfl⟩
  rw [getP_main h1 h2 h3]
  have hmd : ∀ c ∈ (bs.take (bs.length - 4)).drop 4, c < 256 := fun c hc => hb c (List.mem_of_mem_take (List.mem_of_mem_drop hc))
  cases hp : projR ((bs.take (bs.length - 4)).drop 4) with
  | none => right; exact ⟨by show (10 : Int) ≠ 0; decide, rfl⟩
  | some q =>
    obtain ⟨p, r⟩ := q
    cases r with
    | cons y r => right; exact ⟨by show (10 : Int) ≠ 0; decide, rfl⟩
    | nil =>
      have hc := (cn_proj _ _ _ hmd hp).1
      rw [List.append_nil] at hc
      have hs := (sure_proj _ _ _ hmd hp).1.1
      by_cases h0 : projE p = 0
      · left
        have e : afterR (some (p, [])) = (p, 0) := by show (if projE p = 0 then (p, (0 : Int)) else _) = _; rw [if_pos h0]
        rw [e]
        have hbody : bodyB p = bs.take (bs.length - 4) := by
          unfold bodyB
          rw [← hc, ← h2]
          have e1 : bs.take 4 = (bs.take (bs.length - 4)).take 4 := by rw [List.take_take, Nat.min_eq_left (by omega)]
          rw [e1, List.take_append_drop]
        refine ⟨rfl, h0, ?_, hs.rd (by rw [List.length_drop, List.length_take]; omega)⟩
        rw [putP_ok h0, hbody, ← h3, List.take_append_drop]
      · right
        have e : afterR (some (p, [])) = (noP, projE p) := by show (if projE p = 0 then (p, (0 : Int)) else _) = _; rw [if_neg h0]
        rw [e]
        exact ⟨h0, rfl⟩
theorem getL_cases (bs : List Nat) (hb : ∀ c ∈ bs, c < 256) :
    ((getL bs).2.2 = 0 ∧ lawOk (getL bs).1 = true ∧ (getL bs).2.1 = (putL (getL bs).1).length ∧ (getL bs).2.1 ≤ bs.length ∧ bs.take (getL bs).2.1 = putL (getL bs).1) ∨ ((getL bs).2.1 = 0 ∧ ((getL bs).2.2 = 10 ∨ (getL bs).2.2 = 17)) := by
  unfold getL
  cases hl : lawR bs with
  | none => exact .inr ⟨rfl, .inl rfl⟩
  | some q =>
    obtain ⟨l, r⟩ := q
    have hc := (cn_law _ _ _ hb hl).1
    simp only
    by_cases h0 : lawOk l = true
    · rw [if_pos h0]
      left
      have e : bs.length - r.length = (lawB l).length := by rw [hc, List.length_append]; omega
      have hp : putL l = lawB l := by unfold putL; rw [if_pos h0]
      refine ⟨rfl, h0, by rw [hp]; exact e, by show bs.length - r.length ≤ _; omega, ?_⟩
      show bs.take (bs.length - r.length) = putL l
      rw [e, hp]
      conv => lhs; rw [hc]
      rw [List.take_left]
    · rw [if_neg h0]
      exact .inr ⟨rfl, .inr rfl⟩
theorem getW_cases (bs : List Nat) (hb : ∀ c ∈ bs, c < 256) :
    ((getW bs).2.2 = 0 ∧ wordE (getW bs).1 = 0 ∧ (∀ s ∈ (getW bs).1, ok32 s) ∧ (getW bs).2.1 = (putW (getW bs).1).length ∧ (getW bs).2.1 ≤ bs.length ∧ bs.take (getW bs).2.1 = putW (getW bs).1) ∨ ((getW bs).2.2 ≠ 0 ∧ (getW bs).2.1 = 0 ∧ (getW bs).1 = []) := by
  unfold getW
  cases hl : wordR bs with
  | none => exact .inr ⟨by show (10 : Int) ≠ 0; decide, rfl, rfl⟩
  | some q =>
    obtain ⟨l, r⟩ := q
    have hc := (cn_word _ _ _ hb hl).1
    have hok := (wordR_ok hb hl).2
    simp only
    by_cases h0 : wordE l = 0
    · rw [if_pos h0]
      left
      have e : bs.length - r.length = (wordB l).length := by rw [hc, List.length_append]; omega
      have hp : putW l = wordB l := by unfold putW; rw [if_pos h0]
      refine ⟨rfl, h0, hok, by rw [hp]; exact e, by show bs.length - r.length ≤ _; omega, ?_⟩
      show bs.take (bs.length - r.length) = putW l
      rw [e, hp]
      conv => lhs; rw [hc]
      rw [List.take_left]
    · rw [if_neg h0]
      exact .inr ⟨h0, rfl, rfl⟩
end Go.Proofs.YtmepaeahchiglaaGreatDoor
namespace Go.Proofs.YtmepaeahchiglaaGreatDoor
open Go.RowKit Go.Lib

end Go.Proofs.YtmepaeahchiglaaGreatDoor
