/-
  Plain facts of layer 37's field, of no program: its roads are roads of a map. Conditions: none.
-/
import Derived.Test.YtgimhjkijpcgjaaDoorGaw
import Derived.Deep.RegionHeldLaw
namespace Go.Proofs.YtgimhjkijpcgjaaDoor
open Go.RowKit Go.Lib

/-- Roads from a greater point to a smaller one, of length 1, no two the same; and where they are kept. -/
structure FldI (n : Nat) (R : List Rd) (T : List Bool) : Prop where
  len : T.length = n * n
  ok : ∀ x ∈ R, 0 ≤ x.2.1 ∧ x.2.1 < x.1 ∧ x.1 < n ∧ x.2.2 = 1 ∧ T[(x.2.1 * n + x.1).toNat]? = some true
  err : roadsE n [] R = 0
theorem roadsE_snoc (n : Nat) (x : Rd) : ∀ (l seen : List Rd), roadsE n seen l = 0 → roadE n (seen ++ l) x = 0 → roadsE n seen (l ++ [x]) = 0
  | [], seen, _, h => by
    rw [List.append_nil] at h
    show (if roadE n seen x = 0 then roadsE n (seen ++ [x]) [] else roadE n seen x) = 0
    rw [if_pos h]; rfl
  | y :: l, seen, h0, h => by
    have h0' : (if roadE n seen y = 0 then roadsE n (seen ++ [y]) l else roadE n seen y) = 0 := h0
    show (if roadE n seen y = 0 then roadsE n (seen ++ [y]) (l ++ [x]) else roadE n seen y) = 0
    by_cases hy : roadE n seen y = 0
    · rw [if_pos hy] at h0' ⊢
      exact roadsE_snoc n x l (seen ++ [y]) h0' (by rw [List.append_assoc]; exact h)
    · rw [if_neg hy] at h0'; exact absurd h0' hy
theorem roadsE_nil (n : Nat) : roadsE n [] [] = 0 := rfl
theorem FldI.start (n : Nat) : FldI n [] (List.replicate (n * n) false) := ⟨List.length_replicate, (fun _ h => by cases h), rfl⟩
theorem idx_lt {n a b : Nat} (ha : a < n) (hb : b < n) : a * n + b < n * n := by
  have : (a + 1) * n ≤ n * n := Nat.mul_le_mul_right n ha
  rw [Nat.succ_mul] at this
  omega
theorem FldI.add {n : Nat} {R : List Rd} {T : List Bool} (h : FldI n R T) {a b : Nat} (hab : a < b) (hb : b < n) (hT : T[a * n + b]? = some false) : FldI n (R ++ [((b : Int), (a : Int), 1)]) (T.set (a * n + b) true) := by
  have hidx := idx_lt (show a < n by omega) hb
  have hcast : ((a : Int) * n + b).toNat = a * n + b := by
    rw [← Int.natCast_mul, ← Int.natCast_add, Int.toNat_natCast]
  refine ⟨by rw [List.length_set]; exact h.len, fun x hx => ?_, ?_⟩
  · rcases List.mem_append.1 hx with hx | hx
    · obtain ⟨h1, h2, h3, h4, h5⟩ := h.ok x hx
      refine ⟨h1, h2, h3, h4, ?_⟩
      by_cases e : (x.2.1 * n + x.1).toNat = a * n + b
      · rw [e, hT] at h5; cases h5
      · rw [List.getElem?_set_ne (fun he => e he.symm)]; exact h5
    · obtain rfl := List.mem_singleton.1 hx
      refine ⟨by simp, by simp; omega, by simp; omega, rfl, ?_⟩
      show (T.set (a * n + b) true)[((a : Int) * n + b).toNat]? = some true
      rw [hcast, List.getElem?_set_self (by rw [h.len]; exact hidx)]
  · refine roadsE_snoc n _ R [] h.err ?_
    unfold roadE
    rw [List.nil_append, if_neg (by simp; omega), if_neg (by simp; omega), if_neg (by simp), if_neg]
    intro hr
    unfold hasRoad at hr
    obtain ⟨y, hy, hs⟩ := List.any_eq_true.1 hr
    obtain ⟨h1, h2, h3, h4, h5⟩ := h.ok y hy
    unfold sameRoad at hs
    simp only [Bool.or_eq_true, Bool.and_eq_true, beq_iff_eq] at hs
    rcases hs with ⟨e1, e2⟩ | ⟨e1, e2⟩
    · rw [e1, e2, hcast, hT] at h5; cases h5
    · rw [e1, e2] at h2; omega
theorem FldI.okr {n : Nat} {R : List Rd} {T : List Bool} (h : FldI n R T) : ∀ x ∈ R, x.2.1 < x.1 ∧ 0 ≤ x.2.1 ∧ x.1 < n := fun x hx => by
  obtain ⟨h1, h2, h3, _⟩ := h.ok x hx
  exact ⟨h2, h1, h3⟩
def fldN (k : Nat) : List ByteArray := (List.range k).map fun a => ⟨#[UInt8.ofNat (97 + a)]⟩
theorem fldN_len (k : Nat) : (fldN k).length = k := by simp [fldN]
theorem fldN_succ (k : Nat) : fldN (k + 1) = fldN k ++ [⟨#[UInt8.ofNat (97 + k)]⟩] := by unfold fldN; rw [List.range_succ, List.map_append]; rfl
theorem fldN_ok : ∀ k : Fin 13, namesE [] (fldN k.val) = 0 := by decide +kernel
theorem fldN_size (k : Nat) : ∀ s ∈ fldN k, s.size ≤ maxLen := fun s hs => by
  obtain ⟨a, _, rfl⟩ := List.mem_map.1 hs
  show 1 ≤ maxLen
  unfold maxLen; decide
theorem fld_new {n : Nat} {R : List Rd} {T : List Bool} (h : FldI n R T) (hn : n ≤ 12) (hR : R.length ≤ 512) : newE (fldN n) R = 0 := by
  unfold newE
  rw [if_neg (by rw [fldN_len]; omega), if_pos (fldN_ok ⟨n, by omega⟩), fldN_len]
  exact h.err
end Go.Proofs.YtgimhjkijpcgjaaDoor
namespace Go.Proofs.YtgimhjkijpcgjaaDoor
open Go.RowKit Go.Lib

/-- The memory of field. -/
structure FldM (B : Nat) (W0 W : World) (g6 g8 g9 qT n : Nat) (vR : Value) (R : List Rd) (T : List Bool) : Prop where
  b6 : Blk W g6 3 #[.int .i64 n]
  b9 : Blk W g9 111 #[.slice (some ⟨qT, 0, none⟩) (n * n) (n * n)]
  bT : Blk W qT 4 (T.map Value.bool).toArray
  b8 : Blk W g8 23 #[vR]
  own : W.ownsRow B 71 3 vR R.length (R.flatMap roadV)
  inv : FldI n R T
  h8 : B ≤ g8
  hT : B ≤ qT
  bel : Below B W0 W
section
variable {B : Nat} {W0 W W' : World} {g6 g8 g9 qT n : Nat} {vR : Value} {R : List Rd} {T : List Bool}
theorem FldM.later (h : FldM B W0 W g6 g8 g9 qT n vR R T) (hb : Below W.heap.size W W') (hB : B ≤ W.heap.size) : FldM B W0 W' g6 g8 g9 qT n vR R T :=
  ⟨h.b6.below hb h.b6.lt, h.b9.below hb h.b9.lt, h.bT.below hb h.bT.lt, h.b8.below hb h.b8.lt, own_below h.own hb, h.inv, h.h8, h.hT, h.bel.trans (hb.mono hB)⟩
theorem FldM.cellT (h : FldM B W0 W g6 g8 g9 qT n vR R T) {k : Nat} {b : Bool} (hk : T[k]? = some b) : W.cell? ⟨qT, k, none⟩ = some (.bool b) := by
  refine (h.bT.cell k).trans ?_
  rw [List.getElem?_toArray, List.getElem?_map, hk]; rfl
end
theorem T_get {n : Nat} {R : List Rd} {T : List Bool} (h : FldI n R T) {a b : Nat} (ha : a < n) (hb : b < n) : ∃ t, T[a * n + b]? = some t := ⟨_, List.getElem?_eq_getElem (by rw [h.len]; exact idx_lt ha hb)⟩
theorem mul_bound {n a b : Nat} (hn : n ≤ 12) (ha : a < n) (hb : b < n) : a * n ≤ 144 ∧ a * n + b < n * n ∧ n * n ≤ 144 := by
  have h1 := idx_lt ha hb
  have h2 : n * n ≤ 12 * 12 := Nat.mul_le_mul hn hn
  omega
section
variable {B : Nat} {W0 W W' : World} {g6 g8 g9 qT n : Nat} {vR : Value} {R : List Rd} {T : List Bool}
/-- A road more: it is marked, and appended. -/
theorem FldM.push (h : FldM B W0 W g6 g8 g9 qT n vR R T) (hB : B ≤ W.heap.size) {a b : Nat} (hab : a < b) (hb : b < n) (hT : T[a * n + b]? = some false) {v' : Value}
    (hg : World.grownBy ((W.setCell ⟨qT, a * n + b, none⟩ (.bool true)).alloc (.cells #[.int .i64 (b : Int), .int .i64 (a : Int), .int .i64 1] 71)) W' vR.ownBlock)
    (ho : W'.ownsRow B 71 3 v' (R.length + 1) (R.flatMap roadV ++ roadV ((b : Int), (a : Int), 1))) :
    FldM B W0 (W'.setCell ⟨g8, 0, none⟩ v') g6 g8 g9 qT n v' (R ++ [((b : Int), (a : Int), 1)]) (T.set (a * n + b) true) := by
  have e1 : Below W.heap.size (W.setCell ⟨qT, a * n + b, none⟩ (.bool true)) ((W.setCell ⟨qT, a * n + b, none⟩ (.bool true)).alloc (.cells #[.int .i64 (b : Int), .int .i64 (a : Int), .int .i64 1] 71)) := (Below.refl _ _).alloc (by simp [World.setCell]) _
  have k6 := (h.b6.far (p := ⟨qT, a * n + b, none⟩) (Blk.ne_ h.b6 h.bT (by decide)) (.bool true)).alloc (.cells #[.int .i64 (b : Int), .int .i64 (a : Int), .int .i64 1] 71)
  have k9 := (h.b9.far (p := ⟨qT, a * n + b, none⟩) (Blk.ne_ h.b9 h.bT (by decide)) (.bool true)).alloc (.cells #[.int .i64 (b : Int), .int .i64 (a : Int), .int .i64 1] 71)
  have k8 := (h.b8.far (p := ⟨qT, a * n + b, none⟩) (Blk.ne_ h.b8 h.bT (by decide)) (.bool true)).alloc (.cells #[.int .i64 (b : Int), .int .i64 (a : Int), .int .i64 1] 71)
  have kT := (h.bT.set_ (a * n + b) (.bool true)).alloc (.cells #[.int .i64 (b : Int), .int .i64 (a : Int), .int .i64 1] 71)
  have kO := own_al (ownsRow_setCell_other h.own (a := ⟨qT, a * n + b, none⟩) (own_blk_ne h.own h.bT (by decide)) (.bool true)) (.cells #[.int .i64 (b : Int), .int .i64 (a : Int), .int .i64 1] 71)
  have hrow : ∀ r, vR.ownBlock = some r → B ≤ r := fun r e => (h.own.lt r e).1
  have m6 := k6.grown hg (fun e => own_blk_ne kO k6 (by decide) e.symm)
  have m9 := k9.grown hg (fun e => own_blk_ne kO k9 (by decide) e.symm)
  have m8 := k8.grown hg (fun e => own_blk_ne kO k8 (by decide) e.symm)
  have mT := kT.grown hg (fun e => own_blk_ne kO kT (by decide) e.symm)
  have eT : (T.map Value.bool).toArray.setIfInBounds (a * n + b) (.bool true) = ((T.set (a * n + b) true).map Value.bool).toArray := by
    rw [List.setIfInBounds_toArray, List.map_set]
  rw [eT] at mT
  have n8 := m8.set_ 0 v'
  have hbel := (((h.bel.setCell (p := ⟨qT, a * n + b, none⟩) h.hT (.bool true)).alloc (by simp [World.setCell]; exact hB) (.cells #[.int .i64 (b : Int), .int .i64 (a : Int), .int .i64 1] 71)).grown hg (by simp [World.setCell]; omega) hrow).setCell (p := ⟨g8, 0, none⟩) h.h8 v'
  refine ⟨m6.far (p := ⟨g8, 0, none⟩) (Blk.ne_ m6 m8 (by decide)) v', m9.far (p := ⟨g8, 0, none⟩) (Blk.ne_ m9 m8 (by decide)) v', mT.far (p := ⟨g8, 0, none⟩) (Blk.ne_ mT m8 (by decide)) v', n8, ?_, h.inv.add hab hb hT, h.h8, h.hT, hbel⟩
  have := ownsRow_setCell_other ho (a := ⟨g8, 0, none⟩) (own_blk_ne ho m8 (by decide)) v'
  rw [List.length_append, List.flatMap_append]
  simpa using this
end
/-- Rows of strings stay. -/
def KeepR (W w' : World) : Prop := ∀ (g : Nat) (cs : Array Value), Blk W g 9 cs → Blk w' g 9 cs
theorem KeepR.own {W w' : World} {base size n : Nat} {v : Value} {xs : List Value} (h : KeepR W w') (ho : W.ownsRow base 9 size v n xs) : w'.ownsRow base 9 size v n xs := by
  refine ⟨ho.1, ?_⟩
  rcases ho.2 with hn | ⟨g, cap, cur, rfl, hb, hg, rest⟩
  · exact .inl hn
  · exact .inr ⟨g, cap, cur, rfl, hb, h g cur hg, rest⟩
theorem push_keep {B : Nat} {W0 W W' : World} {g6 g8 g9 qT n : Nat} {vR : Value} {R : List Rd} {T : List Bool} (h : FldM B W0 W g6 g8 g9 qT n vR R T) {i : Nat} (b a : Nat)
    (hg : World.grownBy ((W.setCell ⟨qT, i, none⟩ (.bool true)).alloc (.cells #[.int .i64 (b : Int), .int .i64 (a : Int), .int .i64 1] 71)) W' vR.ownBlock) (u : Value) : KeepR W (W'.setCell ⟨g8, 0, none⟩ u) := fun g cs hc => by
  have k8 := (h.b8.far (p := ⟨qT, i, none⟩) (Blk.ne_ h.b8 h.bT (by decide)) (.bool true)).alloc (.cells #[.int .i64 (b : Int), .int .i64 (a : Int), .int .i64 1] 71)
  have kc := (hc.far (p := ⟨qT, i, none⟩) (Blk.ne_ hc h.bT (by decide)) (.bool true)).alloc (.cells #[.int .i64 (b : Int), .int .i64 (a : Int), .int .i64 1] 71)
  have kO := own_al (ownsRow_setCell_other h.own (a := ⟨qT, i, none⟩) (own_blk_ne h.own h.bT (by decide)) (.bool true)) (.cells #[.int .i64 (b : Int), .int .i64 (a : Int), .int .i64 1] 71)
  have m8 := k8.grown hg (fun e => own_blk_ne kO k8 (by decide) e.symm)
  have mc := kc.grown hg (fun e => own_blk_ne kO kc (by decide) e.symm)
  exact mc.far (p := ⟨g8, 0, none⟩) (Blk.ne_ mc m8 (by decide)) u
def AddPost (B : Nat) (W0 W : World) (g6 g8 g9 qT n m : Nat) (e : Ending) (w' : World) : Prop := e = .returned (.tuple #[]) ∧ ∃ vR R T, FldM B W0 w' g6 g8 g9 qT n vR R T ∧ R.length ≤ m + 1 ∧ KeepR W w'
theorem reads_new3 (w : World) (x : Rd) : Reads (w.alloc (.cells #[.int .i64 x.1, .int .i64 x.2.1, .int .i64 x.2.2] 71)) (w.heap.size + 1) 3 (some ⟨w.heap.size, 0, none⟩) 1 (roadV x) := by
  refine ⟨rfl, fun _ => ⟨_, rfl, by simp, fun j u hu => ?_⟩⟩
  rw [add_at]
  exact ((Blk.new w 71 #[.int .i64 x.1, .int .i64 x.2.1, .int .i64 x.2.2]).cell j).trans (by rw [List.getElem?_toArray]; exact hu)
theorem push_b8 {B : Nat} {W0 W W' : World} {g6 g8 g9 qT n : Nat} {vR : Value} {R : List Rd} {T : List Bool} (h : FldM B W0 W g6 g8 g9 qT n vR R T) {i : Nat} (b a : Nat)
    (hg : World.grownBy ((W.setCell ⟨qT, i, none⟩ (.bool true)).alloc (.cells #[.int .i64 (b : Int), .int .i64 (a : Int), .int .i64 1] 71)) W' vR.ownBlock) : Blk W' g8 23 #[vR] := by
  have k8 := (h.b8.far (p := ⟨qT, i, none⟩) (Blk.ne_ h.b8 h.bT (by decide)) (.bool true)).alloc (.cells #[.int .i64 (b : Int), .int .i64 (a : Int), .int .i64 1] 71)
  have kO := own_al (ownsRow_setCell_other h.own (a := ⟨qT, i, none⟩) (own_blk_ne h.own h.bT (by decide)) (.bool true)) (.cells #[.int .i64 (b : Int), .int .i64 (a : Int), .int .i64 1] 71)
  exact k8.grown hg (fun e => own_blk_ne kO k8 (by decide) e.symm)
set_option maxRecDepth 20000 in
set_option maxHeartbeats 4000000 in
theorem add37_any (B : Nat) (W0 W : World) (g6 g8 g9 qT n : Nat) (vR : Value) (R : List Rd) (T : List Bool) (x y : Nat) (h : FldM B W0 W g6 g8 g9 qT n vR R T) (hn : n ≤ 12) (hB : B ≤ W.heap.size) (hx : x < n) (hy : y < n) (hR : R.length ≤ 100) :
    Calls Tryd.prog 69 #[.int .i64 x, .int .i64 y, .pointer (some ⟨g9, 0, none⟩), .pointer (some ⟨g6, 0, none⟩), .pointer (some ⟨g8, 0, none⟩)] W (AddPost B W0 W g6 g8 g9 qT n R.length) := by
  obtain ⟨i0, hi, hz0, hz1, hz2⟩ := info_parts (show (Tryd.prog.info? 71).map (fun i => (i.zero, i.size, i.bytes)) = some (some (.agg #[.int .i64 0, .int .i64 0, .int .i64 0]), 3, 24) by kernel_rfl)
  have c6 := h.b6.cell 0
  have c9 := h.b9.cell 0
  have c8 := h.b8.cell 0
  have f8 := h.b8.frozen 0
  simp only [List.getElem?_toArray, List.getElem?_cons_zero] at c6 c9 c8
  have hlen := h.inv.len
  rcases Nat.lt_trichotomy x y with hxy | hxy | hxy
  rotate_left
  · subst hxy
    have H := Lib.hid h
    clear h hlen
    go_enter Tryd.func69, Tryd.ntmps69
    go_wp2
    go_end0
    exact ⟨rfl, vR, R, T, H.out, by omega, fun _ _ h => h⟩
  · have hI : (y : Int) < (x : Int) := by omega
    have hne : ¬ (x : Int) = (y : Int) := by omega
    have hneB : ((x : Int) != (y : Int)) = true := by simp; omega
    obtain ⟨t, ht⟩ := T_get h.inv (a := y) (b := x) hy hx
    obtain ⟨hk1, hk2, hk3⟩ := mul_bound hn (a := y) (b := x) hy hx
    have cT := h.cellT ht
    have fT := h.bT.frozen (y * n + x)
    have H := Lib.hid h; have HT := Lib.hid ht
    have HOWN := Lib.hid (ownsRow_setCell_other h.own (a := ⟨qT, y * n + x, none⟩) (own_blk_ne h.own h.bT (by decide)) (.bool true))
    have c8' : (W.setCell ⟨qT, y * n + x, none⟩ (.bool true)).cell? ⟨g8, 0, none⟩ = some vR := by
      have := (h.b8.far (p := ⟨qT, y * n + x, none⟩) (Blk.ne_ h.b8 h.bT (by decide)) (.bool true)).cell 0
      simpa using this
    have hrn := reads_new3 (W.setCell ⟨qT, y * n + x, none⟩ (.bool true)) ((x : Int), (y : Int), 1)
    have hsz : (W.setCell ⟨qT, y * n + x, none⟩ (.bool true)).heap.size = W.heap.size := by simp [World.setCell]
    rw [hsz] at hrn
    have HSZ := Lib.hid hsz; have HRN := Lib.hid hrn
    clear hrn
    have hkI : ((y : Int) * (n : Int)) = ((y * n : Nat) : Int) := by rw [Int.natCast_mul]
    have HK8 := Lib.hid (fun (w3 : World) (hg : World.grownBy ((W.setCell ⟨qT, y * n + x, none⟩ (.bool true)).alloc (.cells #[.int .i64 (x : Int), .int .i64 (y : Int), .int .i64 1] 71)) w3 vR.ownBlock) => push_b8 h x y hg)
    obtain ⟨k, hk⟩ : ∃ k, y * n = k := ⟨_, rfl⟩
    obtain ⟨m2, hm2⟩ : ∃ m2, n * n = m2 := ⟨_, rfl⟩
    have HK := Lib.hid hk; have HM2 := Lib.hid hm2
    rw [hk] at hk1 hk2 cT fT HOWN c8' HRN HSZ hkI HK8
    rw [hm2] at hk2 hk3 c9
    clear h hlen ht hk hm2 hsz
    have hbI : (k : Int) + (x : Int) < (m2 : Int) := by omega
    cases t
    · go_enter Tryd.func69, Tryd.ntmps69
      go_wp2_with (at_builtin; refine wpList_append_any _ rfl _ _ 23 rfl B 71 i0 (.agg #[.int .i64 0, .int .i64 0, .int .i64 0]) 3 24 Tryd.underlying23 hi hz0 hz1 hz2 rfl (by decide) _ _ _ rfl (own_al HOWN.out _) _ _ _ _ (roadV ((x : Int), (y : Int), 1)) rfl HRN.out (by simp [roadV, Value.oneCell']) (by unfold maxLen; omega) (by omega) (by rw [World.size_alloc, HSZ.out]; omega) ?_; intro v' w3 hown' hgrow hx; clear hx; obtain ⟨A3, c3, rfl, _, _⟩ := ownsRow_form hown'; have hk8 := HK8.out w3 hgrow; have HG := Lib.hid hgrow; have HO := Lib.hid hown'; have HK88 := Lib.hid hk8; have d8 := hk8.cell 0; have e8 := hk8.frozen 0; simp only [List.getElem?_toArray, List.getElem?_cons_zero] at d8; clear hgrow hown' hk8)
      go_end0
      refine ⟨rfl, _, _, _, H.out.push hB (show y < x by omega) hx HT.out ?_ HO.out, by simp, ?_⟩
      · rw [HK.out]; exact HG.out
      · exact push_keep H.out x y HG.out _
    · go_enter Tryd.func69, Tryd.ntmps69
      go_wp2
      go_end0
      exact ⟨rfl, vR, R, T, H.out, by omega, fun _ _ h => h⟩
  · have hI : (x : Int) < (y : Int) := by omega
    have hne : ¬ (x : Int) = (y : Int) := by omega
    have hneB : ((x : Int) != (y : Int)) = true := by simp; omega
    obtain ⟨t, ht⟩ := T_get h.inv (a := x) (b := y) hx hy
    obtain ⟨hk1, hk2, hk3⟩ := mul_bound hn (a := x) (b := y) hx hy
    have cT := h.cellT ht
    have fT := h.bT.frozen (x * n + y)
    have H := Lib.hid h; have HT := Lib.hid ht
    have HOWN := Lib.hid (ownsRow_setCell_other h.own (a := ⟨qT, x * n + y, none⟩) (own_blk_ne h.own h.bT (by decide)) (.bool true))
    have c8' : (W.setCell ⟨qT, x * n + y, none⟩ (.bool true)).cell? ⟨g8, 0, none⟩ = some vR := by
      have := (h.b8.far (p := ⟨qT, x * n + y, none⟩) (Blk.ne_ h.b8 h.bT (by decide)) (.bool true)).cell 0
      simpa using this
    have hrn := reads_new3 (W.setCell ⟨qT, x * n + y, none⟩ (.bool true)) ((y : Int), (x : Int), 1)
    have hsz : (W.setCell ⟨qT, x * n + y, none⟩ (.bool true)).heap.size = W.heap.size := by simp [World.setCell]
    rw [hsz] at hrn
    have HSZ := Lib.hid hsz; have HRN := Lib.hid hrn
    clear hrn
    have hkI : ((x : Int) * (n : Int)) = ((x * n : Nat) : Int) := by rw [Int.natCast_mul]
    have HK8 := Lib.hid (fun (w3 : World) (hg : World.grownBy ((W.setCell ⟨qT, x * n + y, none⟩ (.bool true)).alloc (.cells #[.int .i64 (y : Int), .int .i64 (x : Int), .int .i64 1] 71)) w3 vR.ownBlock) => push_b8 h y x hg)
    obtain ⟨k, hk⟩ : ∃ k, x * n = k := ⟨_, rfl⟩
    obtain ⟨m2, hm2⟩ : ∃ m2, n * n = m2 := ⟨_, rfl⟩
    have HK := Lib.hid hk; have HM2 := Lib.hid hm2
    rw [hk] at hk1 hk2 cT fT HOWN c8' HRN HSZ hkI HK8
    rw [hm2] at hk2 hk3 c9
    clear h hlen ht hk hm2 hsz
    have hbI : (k : Int) + (y : Int) < (m2 : Int) := by omega
    cases t
    · go_enter Tryd.func69, Tryd.ntmps69
      go_wp2_with (at_builtin; refine wpList_append_any _ rfl _ _ 23 rfl B 71 i0 (.agg #[.int .i64 0, .int .i64 0, .int .i64 0]) 3 24 Tryd.underlying23 hi hz0 hz1 hz2 rfl (by decide) _ _ _ rfl (own_al HOWN.out _) _ _ _ _ (roadV ((y : Int), (x : Int), 1)) rfl HRN.out (by simp [roadV, Value.oneCell']) (by unfold maxLen; omega) (by omega) (by rw [World.size_alloc, HSZ.out]; omega) ?_; intro v' w3 hown' hgrow hx; clear hx; obtain ⟨A3, c3, rfl, _, _⟩ := ownsRow_form hown'; have hk8 := HK8.out w3 hgrow; have HG := Lib.hid hgrow; have HO := Lib.hid hown'; have HK88 := Lib.hid hk8; have d8 := hk8.cell 0; have e8 := hk8.frozen 0; simp only [List.getElem?_toArray, List.getElem?_cons_zero] at d8; clear hgrow hown' hk8)
      go_end0
      refine ⟨rfl, _, _, _, H.out.push hB (show x < y by omega) hy HT.out ?_ HO.out, by simp, ?_⟩
      · rw [HK.out]; exact HG.out
      · exact push_keep H.out y x HG.out _
    · go_enter Tryd.func69, Tryd.ntmps69
      go_wp2
      go_end0
      exact ⟨rfl, vR, R, T, H.out, by omega, fun _ _ h => h⟩
end Go.Proofs.YtgimhjkijpcgjaaDoor
