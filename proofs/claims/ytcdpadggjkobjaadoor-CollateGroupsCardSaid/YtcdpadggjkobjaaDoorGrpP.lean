/-
  Plain facts of layer 39, for CollateGroups: 26 letters, each with its capital letter. Conditions: none.
-/
import Derived.Test.YtcdpadggjkobjaaDoorChains
namespace Go.Proofs.YtcdpadggjkobjaaDoor
open Go.RowKit Go.Lib

def isLet (b : UInt8) : Bool := decide (97 ≤ b.toNat ∧ b.toNat ≤ 122) || decide (65 ≤ b.toNat ∧ b.toNat ≤ 90)
def plc (b : UInt8) : Nat := if 97 ≤ b.toNat then b.toNat - 97 else b.toNat - 65
def grp (i : Nat) : ByteArray := ⟨#[UInt8.ofNat (97 + i), 32, UInt8.ofNat (65 + i)]⟩
def alphaL (n : Nat) : List ByteArray := (List.range n).map grp
theorem alphaL_succ (n : Nat) : alphaL (n + 1) = alphaL n ++ [grp n] := by simp [alphaL, List.range_succ]
theorem alphaL_length (n : Nat) : (alphaL n).length = n := by simp [alphaL]
def aG : List (List ByteArray) := groupsB (alphaL 26)
theorem aErr : newErr (alphaL 26) = 0 := by decide +kernel
theorem aGood : GoodG aG := ⟨by decide +kernel, by decide +kernel⟩
theorem aTotal : totalS (alphaL 26) = 78 := by decide +kernel
theorem aEnts : ∀ n, n < 256 → isLet (UInt8.ofNat n) = true → ((ents aG).any fun e => (bl e.1 == [UInt8.ofNat n]) && (e.2 == plc (UInt8.ofNat n))) = true := by decide +kernel
theorem aOne : ∀ z ∈ aG.flatten, z.size ≤ 1 := by decide +kernel
theorem ents_let {b : UInt8} (h : isLet b = true) : (mkB [b], plc b) ∈ ents aG := by
  have := aEnts b.toNat b.toNat_lt (by rw [UInt8.ofNat_toNat]; exact h)
  rw [UInt8.ofNat_toNat, List.any_eq_true] at this
  obtain ⟨e, he, h1⟩ := this
  rw [Bool.and_eq_true, beq_iff_eq, beq_iff_eq] at h1
  have e1 : e.1 = mkB [b] := bl_inj (by rw [bl_mkB]; exact h1.1)
  rw [← e1, ← h1.2]; exact he
theorem longest_let {b : UInt8} (h : isLet b = true) (r : Bs) : longest aG (mkB (b :: r)) = (mkB [b], (plc b : Int)) :=
  longest_is aGood (e := (mkB [b], plc b)) (ents_let h) (by rw [bl_mkB, bl_mkB]; exact ⟨r, rfl⟩) (fun z hz _ => aOne z hz)
def letE (b : UInt8) : ByteArray × Int := (mkB [b], (plc b : Int))
theorem parse_let : ∀ (d : Bs), (∀ b ∈ d, isLet b = true) → parse aG (mkB d) = some (d.map letE)
  | [], _ => parse_nil aG rfl
  | b :: d, h => by
    have hl := longest_let (h b (by simp)) d
    rw [parse_cons aG (by rw [mkB_size]; simp) (by rw [hl]; simp only; omega), hl]
    have hd : dropB (mkB (b :: d)) (mkB [b]).size = mkB d := bl_inj (by rw [bl_dropB, bl_mkB, bl_mkB]; rfl)
    simp only
    rw [hd, parse_let d (fun x hx => h x (List.mem_cons_of_mem _ hx))]
    rfl
def keyL (d : Bs) : List Int := d.map fun b => (plc b : Int)
theorem readRes_let {d : Bs} (h : ∀ b ∈ d, isLet b = true) (hl : d.length ≤ 65536) : readRes aG (mkB d) = (0, d.map letE) := readRes_some (parse_let d h) (by rw [mkB_size]; exact hl)
theorem keyS_let (d : Bs) : keyS (d.map letE) = keyL d := by simp [keyS, keyL, letE]
theorem order_let {d e : Bs} (h : ∀ b ∈ d, isLet b = true) (h' : ∀ b ∈ e, isLet b = true) (hl : d.length ≤ 65536) (hl' : e.length ≤ 65536) :
    orderRes (readRes aG (mkB d)) (readRes aG (mkB e)) (mkB d) (mkB e) = (beforeV (keyL d) (keyL e) (mkB d) (mkB e), 0) := by
  rw [readRes_let h hl, readRes_let h' hl', orderRes_ok, keyS_let, keyS_let]
theorem same_let {d e : Bs} (h : ∀ b ∈ d, isLet b = true) (h' : ∀ b ∈ e, isLet b = true) (hl : d.length ≤ 65536) (hl' : e.length ≤ 65536) :
    sameRes (readRes aG (mkB d)) (readRes aG (mkB e)) = decide (keyL d = keyL e) := by
  rw [readRes_let h hl, readRes_let h' hl', sameRes_ok, keyS_let, keyS_let]
theorem cmpL_self (l : List Int) : cmpL l l = 0 := by
  induction l with
  | nil => rfl
  | cons a l ih => rw [cmpL, if_pos (cmpI_self a)]; exact ih
theorem cmpL_last (l : List Int) {a b : Int} (h : a ≠ b) : cmpL (l ++ [a]) (l ++ [b]) = cmpI a b := by
  induction l with
  | nil =>
    show cmpL [a] [b] = _
    rw [cmpL, if_neg (fun e => h (cmpI_zero e))]
  | cons x l ih => rw [List.cons_append, List.cons_append, cmpL, if_pos (cmpI_self x)]; exact ih
theorem beforeV_same (k : List Int) (s t : ByteArray) : beforeV k k s t = Lib.compareBytes (bl s) (bl t) := by rw [beforeV_eq, if_pos (cmpL_self k)]
/-- The state of the statement's loop: small letters, and the same ones, some of them capital. -/
structure GrpSt (cs ts : Bs) : Prop where
  len : ts.length = cs.length
  small : ∀ b ∈ cs, 97 ≤ b.toNat ∧ b.toNat ≤ 122
  let_ : ∀ b ∈ ts, isLet b = true
  key : keyL ts = keyL cs
theorem isLet_small {b : UInt8} (h : 97 ≤ b.toNat ∧ b.toNat ≤ 122) : isLet b = true := by unfold isLet; rw [decide_eq_true h]; rfl
theorem GrpSt.letc {cs ts : Bs} (h : GrpSt cs ts) : ∀ b ∈ cs, isLet b = true := fun b hb => isLet_small (h.small b hb)
theorem GrpSt.nil_ : GrpSt [] [] := ⟨rfl, (fun b hb => by cases hb), (fun b hb => by cases hb), rfl⟩
/-- One letter more: bit 0 or 1 says whether the second is capital. -/
theorem GrpSt.push {cs ts : Bs} (h : GrpSt cs ts) {c q : Nat} (hc : 97 ≤ c ∧ c ≤ 122) (hq : q = 0 ∨ q = 1) : GrpSt (cs ++ [UInt8.ofNat c]) (ts ++ [UInt8.ofNat (c - 32 * q)]) := by
  have e1 : (UInt8.ofNat c).toNat = c := by rw [UInt8.toNat_ofNat', Nat.mod_eq_of_lt (by omega)]
  have e2 : (UInt8.ofNat (c - 32 * q)).toNat = c - 32 * q := by rw [UInt8.toNat_ofNat', Nat.mod_eq_of_lt (by omega)]
  refine ⟨by simp [h.len], fun b hb => ?_, fun b hb => ?_, ?_⟩
  · rcases List.mem_append.1 hb with hb | hb
    · exact h.small b hb
    · rw [List.mem_singleton.1 hb, e1]; exact hc
  · rcases List.mem_append.1 hb with hb | hb
    · exact h.let_ b hb
    · rw [List.mem_singleton.1 hb]
      unfold isLet
      rw [e2]
      rcases hq with rfl | rfl
      · rw [decide_eq_true (show 97 ≤ c - 32 * 0 ∧ c - 32 * 0 ≤ 122 by omega)]; rfl
      · rw [decide_eq_true (show 65 ≤ c - 32 * 1 ∧ c - 32 * 1 ≤ 90 by omega), Bool.or_true]
  · unfold keyL
    rw [List.map_append, List.map_append]
    have := h.key
    unfold keyL at this
    rw [this]
    congr 1
    simp only [List.map_cons, List.map_nil]
    congr 2
    unfold plc
    rw [e1, e2]
    rcases hq with rfl | rfl
    · rfl
    · rw [if_neg (by omega), if_pos hc.1]; omega
def nextL (c : Nat) : Nat := 97 + (c - 97 + 1) % 26
/-- The last letter turned into the next one. -/
theorem other_facts {cs ts : Bs} (h : GrpSt cs ts) (hl : cs.length ≤ 60) {m : Nat} (hm : cs.length = m + 1) (c : Nat) (hc : cs[m]'(by omega) = UInt8.ofNat c) (hc' : 97 ≤ c ∧ c ≤ 122) :
    (∀ b ∈ cs.set m (UInt8.ofNat (nextL c)), isLet b = true) ∧
    orderRes (readRes aG (mkB ts)) (readRes aG (mkB (cs.set m (UInt8.ofNat (nextL c))))) (mkB ts) (mkB (cs.set m (UInt8.ofNat (nextL c)))) = (if c = 122 then 1 else -1, 0) ∧
    sameRes (readRes aG (mkB ts)) (readRes aG (mkB (cs.set m (UInt8.ofNat (nextL c))))) = false := by
  have hn : 97 ≤ nextL c ∧ nextL c ≤ 122 := by unfold nextL; omega
  have e1 : (UInt8.ofNat c).toNat = c := by rw [UInt8.toNat_ofNat', Nat.mod_eq_of_lt (by omega)]
  have e2 : (UInt8.ofNat (nextL c)).toNat = nextL c := by rw [UInt8.toNat_ofNat', Nat.mod_eq_of_lt (by omega)]
  have hlet : ∀ b ∈ cs.set m (UInt8.ofNat (nextL c)), isLet b = true := fun b hb => by
    rcases List.mem_or_eq_of_mem_set hb with hb | rfl
    · exact h.letc b hb
    · exact isLet_small (by rw [e2]; exact hn)
  have hcs : cs = cs.take m ++ [UInt8.ofNat c] := by
    conv => lhs; rw [← List.take_append_drop m cs, List.drop_eq_getElem_cons (by omega), hc, List.drop_eq_nil_of_le (by omega)]
  have hset : cs.set m (UInt8.ofNat (nextL c)) = cs.take m ++ [UInt8.ofNat (nextL c)] := by
    conv => lhs; rw [hcs]
    rw [List.set_append_right _ _ (by rw [List.length_take]; omega), List.length_take, show m - min m cs.length = 0 by omega]; rfl
  have p1 : plc (UInt8.ofNat c) = c - 97 := by unfold plc; rw [e1, if_pos hc'.1]
  have p2 : plc (UInt8.ofNat (nextL c)) = (c - 97 + 1) % 26 := by unfold plc; rw [e2, if_pos hn.1]; unfold nextL; omega
  have k1 : keyL ts = keyL (cs.take m) ++ [((c - 97 : Nat) : Int)] := by
    rw [h.key]
    conv => lhs; rw [hcs]
    unfold keyL; rw [List.map_append, List.map_singleton, p1]
  have k2 : keyL (cs.set m (UInt8.ofNat (nextL c))) = keyL (cs.take m) ++ [(((c - 97 + 1) % 26 : Nat) : Int)] := by
    rw [hset]; unfold keyL; rw [List.map_append, List.map_singleton, p2]
  have hne : ((c - 97 : Nat) : Int) ≠ (((c - 97 + 1) % 26 : Nat) : Int) := by omega
  have hcmp := cmpL_last (keyL (cs.take m)) hne
  have hll : (cs.set m (UInt8.ofNat (nextL c))).length ≤ 65536 := by rw [List.length_set]; omega
  refine ⟨hlet, ?_, ?_⟩
  · rw [order_let h.let_ hlet (by rw [h.len]; omega) hll, beforeV_eq, k1, k2, hcmp]
    unfold cmpI
    by_cases h122 : c = 122
    · subst h122; rfl
    · rw [if_neg h122, if_pos (show ((c - 97 : Nat) : Int) < (((c - 97 + 1) % 26 : Nat) : Int) by omega)]; rfl
  · rw [same_let h.let_ hlet (by rw [h.len]; omega) hll, k1, k2]
    refine decide_eq_false (fun e => hne ?_)
    have := List.append_cancel_left e
    exact (List.cons.inj this).1
end Go.Proofs.YtcdpadggjkobjaaDoor
