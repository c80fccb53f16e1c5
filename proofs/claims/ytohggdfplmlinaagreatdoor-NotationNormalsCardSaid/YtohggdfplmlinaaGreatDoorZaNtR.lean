/-
  layer 4: read of a notation. Conditions: a notation in memory, a text of at most maxLen bytes. (Printed by read.py.)
-/
import Derived.Test.YtohggdfplmlinaaGreatDoorZaNtU
import Derived.Test.YtohggdfplmlinaaGreatDoorZaai
namespace Go.Proofs.YtohggdfplmlinaaGreatDoor
open Go.RowKit Go.Lib
attribute [local go_sem] Oper.semAt_some

/-- What a read returns. -/
def ReadPost (w : World) (R : Rs) (e : Ending) (w' : World) : Prop :=
  ∃ vw vt, e = .returned (.tuple #[vw, vt, .int .i64 R.at_, .int .i64 R.e]) ∧ w'.ownsRow w.heap.size 30 2 vw R.w.length (R.w.flatMap sndC) ∧ w'.ownsRow w.heap.size 9 1 vt R.texts.length (R.texts.map fun t => .string (asB t)) ∧ Below w.heap.size w w'
/-- What is known inside a round of the loop over units. -/
structure RI (B g : Nat) (u : Un) (W w : World) (b1 b2 v1 : Value) (n1 : Nat) (xs1 : List Value) (v2 : Value) (n2 : Nat) (xs2 : List Value) : Prop where
  oth : KeepsOthers W w
  kp : KeepU B (B + 4) (B + 5) W w
  x1 : Blk w B 27 #[b1]
  x2 : Blk w (B + 1) 22 #[b2]
  x3 : Blk w (B + 2) 3 #[.int .i64 0]
  x4 : Blk w (B + 3) 33 #[.int .i64 0]
  un : Blk w g 115 #[.int .u32 u.x.1, .int .u32 u.x.2, .string (asB u.text), .int .i64 u.at_]
  r1 : w.ownsRow (B + 6) 30 2 v1 n1 xs1
  r2 : w.ownsRow (B + 6) 9 1 v2 n2 xs2
  size : B + 6 ≤ w.heap.size
section
variable {B g n1 n2 : Nat} {u : Un} {W w w' : World} {b1 b2 v1 v2 : Value} {xs1 xs2 : List Value}
theorem RI.alloc (h : RI B g u W w b1 b2 v1 n1 xs1 v2 n2 xs2) (o : Obj) : RI B g u W (w.alloc o) b1 b2 v1 n1 xs1 v2 n2 xs2 :=
  ⟨h.oth.trans (KeepsOthers.alloc _ _), ⟨h.kp.1.alloc (by have := h.size; omega) o, (Below.heap_alloc _ _ _ (by have := h.size; omega)).trans h.kp.2.1, (Below.heap_alloc _ _ _ (by have := h.size; omega)).trans h.kp.2.2⟩,
    h.x1.alloc o, h.x2.alloc o, h.x3.alloc o, h.x4.alloc o, h.un.alloc o, h.r1.alloc o, h.r2.alloc o, by rw [World.size_alloc]; have := h.size; omega⟩
theorem RI.app1 (h : RI B g u W w b1 b2 v1 n1 xs1 v2 n2 xs2) {v : Value} {n : Nat} {xs : List Value} (ho : w'.ownsRow (B + 6) 30 2 v n xs) (hg : w.grownBy w' v1.ownBlock) : RI B g u W w' b1 b2 v n xs v2 n2 xs2 := by
  have hs := h.size
  have hl := fun k hk => (h.r1.lt k hk).1
  have hx : ∀ j, j < B + 6 → some j ≠ v1.ownBlock := fun j hj e => by have := hl j e.symm; omega
  exact ⟨h.oth.trans (KeepsOthers.of_grownBy hg (own_cells h.r1)), ⟨h.kp.1.grown hg (by omega) (fun k hk => by have := hl k hk; omega), (hg.block _ (by omega) (hx _ (by omega))).trans h.kp.2.1, (hg.block _ (by omega) (hx _ (by omega))).trans h.kp.2.2⟩,
    h.x1.grown hg (hx _ (by omega)), h.x2.grown hg (hx _ (by omega)), h.x3.grown hg (hx _ (by omega)), h.x4.grown hg (hx _ (by omega)), h.un.grown hg (fun e => own_blk_ne h.r1 h.un (by decide) e.symm), ho,
    h.r2.kept hg (own_own_ne h.r2 h.r1 (by decide)), Nat.le_trans hs hg.size⟩
theorem RI.app2 (h : RI B g u W w b1 b2 v1 n1 xs1 v2 n2 xs2) {v : Value} {n : Nat} {xs : List Value} (ho : w'.ownsRow (B + 6) 9 1 v n xs) (hg : w.grownBy w' v2.ownBlock) : RI B g u W w' b1 b2 v1 n1 xs1 v n xs := by
  have hs := h.size
  have hl := fun k hk => (h.r2.lt k hk).1
  have hx : ∀ j, j < B + 6 → some j ≠ v2.ownBlock := fun j hj e => by have := hl j e.symm; omega
  exact ⟨h.oth.trans (KeepsOthers.of_grownBy hg (own_cells h.r2)), ⟨h.kp.1.grown hg (by omega) (fun k hk => by have := hl k hk; omega), (hg.block _ (by omega) (hx _ (by omega))).trans h.kp.2.1, (hg.block _ (by omega) (hx _ (by omega))).trans h.kp.2.2⟩,
    h.x1.grown hg (hx _ (by omega)), h.x2.grown hg (hx _ (by omega)), h.x3.grown hg (hx _ (by omega)), h.x4.grown hg (hx _ (by omega)), h.un.grown hg (fun e => own_blk_ne h.r2 h.un (by decide) e.symm),
    h.r1.kept hg (own_own_ne h.r1 h.r2 (by decide)), ho, Nat.le_trans hs hg.size⟩
theorem RI.held (h : RI B g u W w b1 b2 v1 n1 xs1 v2 n2 xs2) : w.cell? ⟨B, 0, none⟩ = some b1 ∧ w.cell? ⟨B + 1, 0, none⟩ = some b2 ∧ w.cell? ⟨g, 0, none⟩ = some (.int .u32 u.x.1) ∧ w.cell? ⟨g, 1, none⟩ = some (.int .u32 u.x.2) ∧ w.cell? ⟨g, 2, none⟩ = some (.string (asB u.text)) ∧ w.cell? ⟨g, 3, none⟩ = some (.int .i64 u.at_) := by
  have c1 := h.x1.cell 0; have c2 := h.x2.cell 0
  have d0 := h.un.cell 0; have d1 := h.un.cell 1; have d2 := h.un.cell 2; have d3 := h.un.cell 3
  exact ⟨c1, c2, d0, d1, d2, d3⟩
theorem RI.set1 (h : RI B g u W w b1 b2 v1 n1 xs1 v2 n2 xs2) (b : Value) (hg : B + 6 ≤ g) : RI B g u W (w.setCell ⟨B, 0, none⟩ b) b b2 v1 n1 xs1 v2 n2 xs2 :=
  ⟨h.oth.trans (KeepsOthers.setCell _ _ _), ⟨h.kp.1.setCell (p := ⟨B, 0, none⟩) (Nat.le_refl _) _, (Below.heap_setCell _ _ _ _ (by simp)).trans h.kp.2.1, (Below.heap_setCell _ _ _ _ (by simp)).trans h.kp.2.2⟩,
    h.x1.set_ 0 b, h.x2.far (by simp) _, h.x3.far (by simp) _, h.x4.far (by simp) _, h.un.far (by simp; omega) _, ownsRow_setCell_below h.r1 (by simp) _, ownsRow_setCell_below h.r2 (by simp) _, by simpa using h.size⟩
theorem RI.set2 (h : RI B g u W w b1 b2 v1 n1 xs1 v2 n2 xs2) (b : Value) (hg : B + 6 ≤ g) : RI B g u W (w.setCell ⟨B + 1, 0, none⟩ b) b1 b v1 n1 xs1 v2 n2 xs2 :=
  ⟨h.oth.trans (KeepsOthers.setCell _ _ _), ⟨h.kp.1.setCell (p := ⟨B + 1, 0, none⟩) (by simp) _, (Below.heap_setCell _ _ _ _ (by simp)).trans h.kp.2.1, (Below.heap_setCell _ _ _ _ (by simp)).trans h.kp.2.2⟩,
    h.x1.far (by simp) _, h.x2.set_ 0 b, h.x3.far (by simp) _, h.x4.far (by simp) _, h.un.far (by simp; omega) _, ownsRow_setCell_below h.r1 (by simp) _, ownsRow_setCell_below h.r2 (by simp) _, by simpa using h.size⟩
theorem RI.drew (h : RI B g u W w b1 b2 v1 n1 xs1 v2 n2 xs2) : RI B g u W w.drew b1 b2 v1 n1 xs1 v2 n2 xs2 :=
  ⟨h.oth.trans (KeepsOthers.drew _), ⟨h.kp.1.drew, h.kp.2.1, h.kp.2.2⟩, h.x1, h.x2, h.x3, h.x4, h.un, h.r1, h.r2, h.size⟩
end
theorem sndC_flat (l : List Un) (u : Un) : (l.map (·.x)).flatMap sndC ++ [.int .u32 u.x.1, .int .u32 u.x.2] = ((l ++ [u]).map (·.x)).flatMap sndC := by
  rw [List.map_append, List.flatMap_append]; rfl
theorem txt_flat (l : List Un) (u : Un) : (l.map (·.text)).map (fun t => Value.string (asB t)) ++ [.string (asB u.text)] = ((l ++ [u]).map (·.text)).map fun t => Value.string (asB t) := by
  rw [List.map_append, List.map_append]; rfl
theorem reads_blk {w : World} {q k : Nat} {t : TypeId} {cs : Array Value} (h : Blk w q t cs) (hl : cs.size = k) : Reads w (q + 1) k (some ⟨q, 0, none⟩) 1 cs.toList :=
  ⟨by rw [Array.length_toList, hl, Nat.one_mul], fun _ => ⟨_, rfl, Nat.lt_succ_self _, fun j u hu => by
    rw [add_at, h.cell j]
    simpa using hu⟩⟩
/-- What came up so far of the two appends of a round. -/
structure RS (B q : Nat) (u : Un) (W : World) (pre : List Un) (A1 A2 : Option Addr) (c1 c2 : Nat) (m0 m5 : Bool) (k1 k2 : Nat) (u28 u31 u32 u33 u36 u37 : Value) (w : World) : Prop where
  ri : ∃ v1 n1 xs1 v2 n2 xs2, RI B q u W w (.slice A1 pre.length c1) (.slice A2 pre.length c2) v1 n1 xs1 v2 n2 xs2 ∧
    (k1 ≠ 2 → v1 = .slice A1 pre.length c1 ∧ n1 = pre.length ∧ xs1 = (pre.map (·.x)).flatMap sndC) ∧ (k1 = 2 → v1 = u32 ∧ n1 = pre.length + 1 ∧ xs1 = ((pre ++ [u]).map (·.x)).flatMap sndC) ∧
    (k2 ≠ 2 → v2 = .slice A2 pre.length c2 ∧ n2 = pre.length ∧ xs2 = (pre.map (·.text)).map fun t => .string (asB t)) ∧ (k2 = 2 → v2 = u37 ∧ n2 = pre.length + 1 ∧ xs2 = ((pre ++ [u]).map (·.text)).map fun t => .string (asB t))
  l0 : m0 = true → u28 = .slice A1 pre.length c1
  l5 : m5 = true → u33 = .slice A2 pre.length c2
  s1 : k1 = 1 → ∃ j, u31 = .slice (some ⟨j, 0, none⟩) 1 1 ∧ Blk w j 30 #[.int .u32 u.x.1, .int .u32 u.x.2]
  s2 : k2 = 1 → ∃ j, u36 = .slice (some ⟨j, 0, none⟩) 1 1 ∧ Blk w j 9 #[.string (asB u.text)]
  a1 : k1 = 2 → m0 = true
  a2 : k2 = 2 → k1 = 2 ∧ m5 = true
section
variable {B q : Nat} {u : Un} {W w : World} {pre : List Un} {A1 A2 : Option Addr} {c1 c2 : Nat} {m0 m5 : Bool} {k1 k2 : Nat} {u28 u31 u32 u33 u36 u37 : Value}
theorem RS.held (h : RS B q u W pre A1 A2 c1 c2 m0 m5 k1 k2 u28 u31 u32 u33 u36 u37 w) : w.cell? ⟨B, 0, none⟩ = some (.slice A1 pre.length c1) ∧ w.cell? ⟨B + 1, 0, none⟩ = some (.slice A2 pre.length c2) ∧ w.cell? ⟨q, 0, none⟩ = some (.int .u32 u.x.1) ∧ w.cell? ⟨q, 1, none⟩ = some (.int .u32 u.x.2) ∧ w.cell? ⟨q, 2, none⟩ = some (.string (asB u.text)) ∧ w.cell? ⟨q, 3, none⟩ = some (.int .i64 u.at_) := by
  obtain ⟨v1, n1, xs1, v2, n2, xs2, hr, -⟩ := h.ri
  exact hr.held
theorem RS.load0 (h : RS B q u W pre A1 A2 c1 c2 m0 m5 k1 k2 u28 u31 u32 u33 u36 u37 w) : RS B q u W pre A1 A2 c1 c2 true m5 k1 k2 (.slice A1 pre.length c1) u31 u32 u33 u36 u37 w :=
  ⟨h.ri, fun _ => rfl, h.l5, h.s1, h.s2, fun _ => rfl, h.a2⟩
theorem RS.load5 (h : RS B q u W pre A1 A2 c1 c2 m0 m5 k1 k2 u28 u31 u32 u33 u36 u37 w) : RS B q u W pre A1 A2 c1 c2 m0 true k1 k2 u28 u31 u32 (.slice A2 pre.length c2) u36 u37 w :=
  ⟨h.ri, h.l0, fun _ => rfl, h.s1, h.s2, h.a1, fun e => ⟨(h.a2 e).1, rfl⟩⟩
theorem RS.make1 (h : RS B q u W pre A1 A2 c1 c2 m0 m5 0 k2 u28 u31 u32 u33 u36 u37 w) : RS B q u W pre A1 A2 c1 c2 m0 m5 1 k2 u28 (.slice (some ⟨w.heap.size, 0, none⟩) 1 1) u32 u33 u36 u37 (w.alloc (.cells #[.int .u32 u.x.1, .int .u32 u.x.2] 30)) := by
  obtain ⟨v1, n1, xs1, v2, n2, xs2, hr, h1, h2, h3, h4⟩ := h.ri
  refine ⟨⟨v1, n1, xs1, v2, n2, xs2, hr.alloc _, fun _ => h1 (by decide), fun e => (by cases e), h3, h4⟩, h.l0, h.l5, fun _ => ⟨_, rfl, Blk.new _ _ _⟩, fun e => ?_, fun e => (by cases e), fun e => (by cases (h.a2 e).1)⟩
  obtain ⟨j, e1, e2⟩ := h.s2 e
  exact ⟨j, e1, e2.alloc _⟩
theorem RS.make2 (h : RS B q u W pre A1 A2 c1 c2 m0 m5 k1 0 u28 u31 u32 u33 u36 u37 w) : RS B q u W pre A1 A2 c1 c2 m0 m5 k1 1 u28 u31 u32 u33 (.slice (some ⟨w.heap.size, 0, none⟩) 1 1) u37 (w.alloc (.cells #[.string (asB u.text)] 9)) := by
  obtain ⟨v1, n1, xs1, v2, n2, xs2, hr, h1, h2, h3, h4⟩ := h.ri
  refine ⟨⟨v1, n1, xs1, v2, n2, xs2, hr.alloc _, h1, h2, fun _ => h3 (by decide), fun e => (by cases e)⟩, h.l0, h.l5, fun e => ?_, fun _ => ⟨_, rfl, Blk.new _ _ _⟩, h.a1, fun e => (by cases e)⟩
  obtain ⟨j, e1, e2⟩ := h.s1 e
  exact ⟨j, e1, e2.alloc _⟩
theorem RS.row1 (h : RS B q u W pre A1 A2 c1 c2 m0 m5 1 k2 u28 u31 u32 u33 u36 u37 w) : w.ownsRow (B + 6) 30 2 (.slice A1 pre.length c1) pre.length ((pre.map (·.x)).flatMap sndC) ∧ B + 6 ≤ w.heap.size := by
  obtain ⟨v1, n1, xs1, v2, n2, xs2, hr, h1, -⟩ := h.ri
  obtain ⟨rfl, rfl, rfl⟩ := h1 (by decide)
  exact ⟨hr.r1, hr.size⟩
theorem RS.row2 (h : RS B q u W pre A1 A2 c1 c2 m0 m5 k1 1 u28 u31 u32 u33 u36 u37 w) : w.ownsRow (B + 6) 9 1 (.slice A2 pre.length c2) pre.length ((pre.map (·.text)).map fun t => .string (asB t)) ∧ B + 6 ≤ w.heap.size := by
  obtain ⟨v1, n1, xs1, v2, n2, xs2, hr, -, -, h1, -⟩ := h.ri
  obtain ⟨rfl, rfl, rfl⟩ := h1 (by decide)
  exact ⟨hr.r2, hr.size⟩
theorem RS.app1 (h : RS B q u W pre A1 A2 c1 c2 true m5 1 k2 u28 u31 u32 u33 u36 u37 w) {w' : World} {v : Value} (ho : w'.ownsRow (B + 6) 30 2 v (pre.length + 1) ((pre.map (·.x)).flatMap sndC ++ [.int .u32 u.x.1, .int .u32 u.x.2])) (hg : w.grownBy w' (Value.slice A1 pre.length c1).ownBlock) : RS B q u W pre A1 A2 c1 c2 true m5 2 k2 u28 u31 v u33 u36 u37 w' := by
  obtain ⟨v1, n1, xs1, v2, n2, xs2, hr, h1, h2, h3, h4⟩ := h.ri
  obtain ⟨rfl, rfl, rfl⟩ := h1 (by decide)
  rw [sndC_flat] at ho
  refine ⟨⟨v, _, _, v2, n2, xs2, hr.app1 ho hg, fun e => absurd rfl e, fun _ => ⟨rfl, rfl, rfl⟩, h3, h4⟩, h.l0, h.l5, fun e => (by cases e), fun e => ?_, fun _ => rfl, fun e => ⟨rfl, (h.a2 e).2⟩⟩
  obtain ⟨j, e1, e2⟩ := h.s2 e
  exact ⟨j, e1, e2.grown hg (fun e => own_blk_ne hr.r1 e2 (by decide) e.symm)⟩
theorem RS.app2 (h : RS B q u W pre A1 A2 c1 c2 m0 true 2 1 u28 u31 u32 u33 u36 u37 w) {w' : World} {v : Value} (ho : w'.ownsRow (B + 6) 9 1 v (pre.length + 1) ((pre.map (·.text)).map (fun t => Value.string (asB t)) ++ [.string (asB u.text)])) (hg : w.grownBy w' (Value.slice A2 pre.length c2).ownBlock) : RS B q u W pre A1 A2 c1 c2 m0 true 2 2 u28 u31 u32 u33 u36 v w' := by
  obtain ⟨v1, n1, xs1, v2, n2, xs2, hr, h1, h2, h3, h4⟩ := h.ri
  obtain ⟨rfl, rfl, rfl⟩ := h3 (by decide)
  rw [txt_flat] at ho
  exact ⟨⟨v1, n1, xs1, v, _, _, hr.app2 ho hg, h1, h2, fun e => absurd rfl e, fun _ => ⟨rfl, rfl, rfl⟩⟩, h.l0, h.l5, fun e => (by cases e), fun e => (by cases e), h.a1, fun _ => ⟨rfl, rfl⟩⟩
theorem RS.fin (h : RS B q u W pre A1 A2 c1 c2 m0 m5 2 2 u28 u31 u32 u33 u36 u37 w) : RI B q u W w (.slice A1 pre.length c1) (.slice A2 pre.length c2) u32 (pre.length + 1) (((pre ++ [u]).map (·.x)).flatMap sndC) u37 (pre.length + 1) (((pre ++ [u]).map (·.text)).map fun t => .string (asB t)) := by
  obtain ⟨v1, n1, xs1, v2, n2, xs2, hr, h1, h2, h3, h4⟩ := h.ri
  obtain ⟨rfl, rfl, rfl⟩ := h2 rfl
  obtain ⟨rfl, rfl, rfl⟩ := h4 rfl
  exact hr
end
def chkR (m0 m5 : Bool) (k1 k2 i : Nat) : Bool := (decide (i = 0) && !m0) || ((decide (i = 5) && !m5) || ((decide (i = 3) && decide (k1 = 0)) || ((decide (i = 8) && decide (k2 = 0)) || ((decide (i = 4) && (decide (k1 = 1) && m0)) || (decide (i = 9) && (decide (k1 = 2) && (decide (k2 = 1) && m5)))))))
theorem chkR_cases {m0 m5 : Bool} {k1 k2 i : Nat} (h : chkR m0 m5 k1 k2 i = true) : (i = 0 ∧ m0 = false) ∨ (i = 5 ∧ m5 = false) ∨ (i = 3 ∧ k1 = 0) ∨ (i = 8 ∧ k2 = 0) ∨ (i = 4 ∧ k1 = 1 ∧ m0 = true) ∨ (i = 9 ∧ k1 = 2 ∧ k2 = 1 ∧ m5 = true) := by
  unfold chkR at h
  simpa only [Bool.or_eq_true, Bool.and_eq_true, decide_eq_true_eq, Bool.not_eq_true'] using h
def leftR (m0 m5 : Bool) (k1 k2 : Nat) : Nat := ((if m0 then 0 else 1) + (if m5 then 0 else 1)) + ((2 - k1) + (2 - k2))
/-- The boxes behind a return inside the loop. -/
def Left (B : Nat) (a e : Int) (w : World) : Prop := Blk w B 27 #[.slice none 0 0] ∧ Blk w (B + 1) 22 #[.slice none 0 0] ∧ Blk w (B + 2) 3 #[.int .i64 a] ∧ Blk w (B + 3) 33 #[.int .i64 e]
theorem RI.left {B g n1 n2 : Nat} {u : Un} {W w : World} {b1 b2 v1 v2 : Value} {xs1 xs2 : List Value} (h : RI B g u W w b1 b2 v1 n1 xs1 v2 n2 xs2) (a e : Int) :
    Left B a e ((((w.setCell ⟨B, 0, none⟩ (.slice none 0 0)).setCell ⟨B + 1, 0, none⟩ (.slice none 0 0)).setCell ⟨B + 2, 0, none⟩ (.int .i64 a)).setCell ⟨B + 3, 0, none⟩ (.int .i64 e)) :=
  ⟨(((h.x1.set_ 0 _).far (by simp) _).far (by simp) _).far (by simp) _, (((h.x2.far (by simp) _).set_ 0 _).far (by simp) _).far (by simp) _, (((h.x3.far (by simp) _).far (by simp) _).set_ 0 _).far (by simp) _, (((h.x4.far (by simp) _).far (by simp) _).far (by simp) _).set_ 0 _⟩
theorem Left.turn {B : Nat} {a e : Int} {W W' : World} {row : Option Nat} (h : Left B a e W) (hg : W.grownBy W' row) (hr : ∀ r, row = some r → False ∨ (B + 6 ≤ r ∧ ∃ o : Obj, W.heap[r]? = some o ∧ o.isCells = false)) : Left B a e W' :=
  ⟨h.1.turn hg hr (fun h => h), h.2.1.turn hg hr (fun h => h), h.2.2.1.turn hg hr (fun h => h), h.2.2.2.turn hg hr (fun h => h)⟩
theorem six_blks (w : World) (c0 c1 c2 c3 c4 c5 : Array Value) (t0 t1 t2 t3 t4 t5 : TypeId) {W : World} (h : (((((w.alloc (.cells c0 t0)).alloc (.cells c1 t1)).alloc (.cells c2 t2)).alloc (.cells c3 t3)).alloc (.cells c4 t4)).alloc (.cells c5 t5) = W) :
    (Blk W w.heap.size t0 c0 ∧ Blk W (w.heap.size + 1) t1 c1 ∧ Blk W (w.heap.size + 2) t2 c2 ∧ Blk W (w.heap.size + 3) t3 c3 ∧ Blk W (w.heap.size + 4) t4 c4 ∧ Blk W (w.heap.size + 5) t5 c5) ∧ W.heap.size = w.heap.size + 6 ∧ Below w.heap.size w W := by
  subst h
  have z1 := World.size_alloc w (.cells c0 t0)
  have z2 := World.size_alloc (w.alloc (.cells c0 t0)) (.cells c1 t1)
  have z3 := World.size_alloc ((w.alloc (.cells c0 t0)).alloc (.cells c1 t1)) (.cells c2 t2)
  have z4 := World.size_alloc (((w.alloc (.cells c0 t0)).alloc (.cells c1 t1)).alloc (.cells c2 t2)) (.cells c3 t3)
  have z5 := World.size_alloc ((((w.alloc (.cells c0 t0)).alloc (.cells c1 t1)).alloc (.cells c2 t2)).alloc (.cells c3 t3)) (.cells c4 t4)
  have z6 := World.size_alloc (((((w.alloc (.cells c0 t0)).alloc (.cells c1 t1)).alloc (.cells c2 t2)).alloc (.cells c3 t3)).alloc (.cells c4 t4)) (.cells c5 t5)
  have b0 := Blk.new w t0 c0
  have b1 := Blk.new (w.alloc (.cells c0 t0)) t1 c1
  have b2 := Blk.new ((w.alloc (.cells c0 t0)).alloc (.cells c1 t1)) t2 c2
  have b3 := Blk.new (((w.alloc (.cells c0 t0)).alloc (.cells c1 t1)).alloc (.cells c2 t2)) t3 c3
  have b4 := Blk.new ((((w.alloc (.cells c0 t0)).alloc (.cells c1 t1)).alloc (.cells c2 t2)).alloc (.cells c3 t3)) t4 c4
  have b5 := Blk.new (((((w.alloc (.cells c0 t0)).alloc (.cells c1 t1)).alloc (.cells c2 t2)).alloc (.cells c3 t3)).alloc (.cells c4 t4)) t5 c5
  rw [z1] at b1
  rw [z2, z1] at b2
  rw [z3, z2, z1] at b3
  rw [z4, z3, z2, z1] at b4
  rw [z5, z4, z3, z2, z1] at b5
  exact ⟨⟨((((b0.alloc _).alloc _).alloc _).alloc _).alloc _, (((b1.alloc _).alloc _).alloc _).alloc _, ((b2.alloc _).alloc _).alloc _, (b3.alloc _).alloc _, b4.alloc _, b5⟩, by rw [z6, z5, z4, z3, z2, z1],
    (((((((Below.refl _ w).alloc (Nat.le_refl _) _).alloc (by omega) _).alloc (by omega) _).alloc (by omega) _).alloc (by omega) _).alloc (by omega) _)⟩
theorem read_slots (i : Nat) (hi : 8 ≤ i) (t : Array Value) (v : Value) (w : World) : (results Tryz.f43 (t.setIfInBounds i v)).run Tryz.prog w = (results Tryz.f43 t).run Tryz.prog w := by
  have h4 : (t.setIfInBounds i v)[4]? = t[4]? := Array.getElem?_setIfInBounds_ne (by omega)
  have h5 : (t.setIfInBounds i v)[5]? = t[5]? := Array.getElem?_setIfInBounds_ne (by omega)
  have h6 : (t.setIfInBounds i v)[6]? = t[6]? := Array.getElem?_setIfInBounds_ne (by omega)
  have h7 : (t.setIfInBounds i v)[7]? = t[7]? := Array.getElem?_setIfInBounds_ne (by omega)
  simp [results, Tryz.results43, h4, h5, h6, h7]
def fourC (w : World) : World := (((w.alloc (.cells #[.slice none 0 0] 27)).alloc (.cells #[.slice none 0 0] 22)).alloc (.cells #[.int .i64 0] 3)).alloc (.cells #[.int .i64 0] 33)
/-- What holds ahead of each round. -/
def InvR (B : Nat) (w : World) (pre : List Un) (W : World) : Prop :=
  okPre pre ∧ (∃ v1, Blk W B 27 #[v1] ∧ W.ownsRow (B + 6) 30 2 v1 pre.length ((pre.map (·.x)).flatMap sndC)) ∧
  (∃ v2, Blk W (B + 1) 22 #[v2] ∧ W.ownsRow (B + 6) 9 1 v2 pre.length ((pre.map (·.text)).map fun t => .string (asB t))) ∧
  Blk W (B + 2) 3 #[.int .i64 0] ∧ Blk W (B + 3) 33 #[.int .i64 0] ∧ Below B w W
def StopR (B : Nat) (w : World) (c : Code) (pre : List Un) (W : World) : Prop :=
  c = .ret ∧ (∃ pre0 u e, pre = pre0 ++ [u] ∧ okPre pre0 ∧ ((u.text = [] ∧ e = 10) ∨ (u.text ≠ [] ∧ pre0.length = 32 ∧ e = 11)) ∧ Left B u.at_ e W) ∧ Below B w W
set_option linter.unusedSimpArgs false in
set_option maxRecDepth 20000 in
set_option maxHeartbeats 8000000 in
theorem read_any {w : World} {S : Nat → Prop} {g : Nat} {fs : List ByteArray} {L : List Nam} {ms : List Mk} (s : ByteArray) (h : NotM w S g fs L ms) (hs : s.size ≤ maxLen) :
    Calls Tryz.prog 43 #[wptr g, .string s] w (ReadPost w (readR L ms (bs s))) := by
  obtain ⟨i1, hi1, hx0, hx1, hx2⟩ := info_parts (show (Tryz.prog.info? 30).map (fun i => (i.zero, i.size, i.bytes)) = some (some (.agg #[.int .u32 0, .int .u32 0]), 2, 8) by kernel_rfl)
  obtain ⟨i2, hi2, hy0, hy1, hy2⟩ := info_parts (show (Tryz.prog.info? 9).map (fun i => (i.zero, i.size, i.bytes)) = some (some (.string ByteArray.empty), 1, 16) by kernel_rfl)
  have hb4 : Below w.heap.size w (fourC w) := ((((Below.refl _ w).alloc (Nat.le_refl _) _).alloc (by simp) _).alloc (by simp; omega) _).alloc (by simp; omega) _
  have hv := nvalid_any (h.below hb4)
  have hun := fun W => nunits_any g s W
  have HV := Lib.hid hv; have HU := Lib.hid hun; have HN := Lib.hid h
  clear hv hun h
  unfold fourC at HV hb4
  refine (callsIn_wide (n := 4)).1 ?_
  refine callsIn_of_wp_marks Tryz.func43 rfl trivial ?_ rfl
  simp only [Tryz.ntmps43, List.size_toArray, List.length_cons, List.length_nil, Nat.reduceAdd, Nat.reduceSub, Array.replicate_succ, Array.replicate_zero, List.push_toArray, List.append_toArray, List.nil_append, List.cons_append]
  gi_wp2_with (first
    | (refine ⟨trivial, ?_⟩; gi_at_call 31; refine callsIn_wide.2 (HV.out.mono ?_); rintro e w' ⟨rfl, rfl⟩)
    | (refine ⟨trivial, ?_⟩; gi_at_call 72; refine callsIn_wide.2 ((HU.out _).mono ?_); rintro e w' ⟨rfl, rfl⟩))
  obtain ⟨W0, hW0⟩ : ∃ W0, (((((w.alloc (.cells #[.slice none 0 0] 27)).alloc (.cells #[.slice none 0 0] 22)).alloc (.cells #[.int .i64 0] 3)).alloc (.cells #[.int .i64 0] 33)).alloc (.cells #[wptr g] 32)).alloc (.cells #[.string s] 9) = W0 := ⟨_, rfl⟩
  rw [hW0]
  obtain ⟨⟨k0, k1, k2, k3, k4, k5⟩, hsz, hbW⟩ := six_blks w _ _ _ _ _ _ _ _ _ _ _ _ hW0
  clear hW0 hb4 HV HU
  have hit := units_iter s (w.heap.size + 4) (w.heap.size + 5) HN.out hbW k4 k5 hs
  obtain ⟨U, hU⟩ : ∃ U, unitsK L ms (s.size + 1) 0 (bs s) = U := ⟨_, rfl⟩
  have hR : readR L ms (bs s) = readL U [] [] := by unfold readR; rw [size_bs, hU]
  have hUl : U.length ≤ s.size + 1 := by rw [← hU]; exact unitsK_len L ms _ _ _
  rw [hU] at hit
  have HR := Lib.hid hR
  clear hR hU
  rw [show w.heap.size + 1 + 1 = w.heap.size + 2 from rfl, show w.heap.size + 2 + 1 = w.heap.size + 3 from rfl, show w.heap.size + 3 + 1 = w.heap.size + 4 from rfl, show w.heap.size + 4 + 1 = w.heap.size + 5 from rfl]
  refine range_lawA (gf := 91) (lb := #[wptr (w.heap.size + 5), wptr (w.heap.size + 4)]) rfl (enters_of Tryz.func91 (by kernel_rfl) rfl) hit (fun r h => h.elim)
    (fun h k => ⟨h.1.trans k.1, k.2.1.trans h.2.1, k.2.2.trans h.2.2⟩) (fun W l o o' hl h _ => ⟨below_put (by omega) h, World.putObj_heap_other (by omega), World.putObj_heap_other (by omega)⟩) (Below.refl _ _) (fun _ => rfl)
    (InvR w.heap.size w) (StopR w.heap.size w)
    ?hI ?hIx ?h0 (fun (u : Un) (q : Nat) => { tmps := #[wptr g, .string s, undef, undef, wptr w.heap.size, wptr (w.heap.size + 1), wptr (w.heap.size + 2), wptr (w.heap.size + 3), wptr q, wptr g, .bool true, .bool false, wptr g, .string s, .func (.func 91) #[] #[wptr (w.heap.size + 5), wptr (w.heap.size + 4)], .agg #[.int .u32 u.x.1, .int .u32 u.x.2, .string (asB u.text), .int .i64 u.at_], undef, undef, undef, undef, undef, undef, undef, undef, undef, undef, undef, undef, undef, undef, undef, undef, undef, undef, undef, undef, undef, undef, undef, undef], defers := [] })
    (fun u => .cells #[.int .u32 u.x.1, .int .u32 u.x.2, .string (asB u.text), .int .i64 u.at_] 115) (fun W o' hl => ⟨(Below.refl _ W).alloc (by omega) o', Below.heap_alloc _ _ _ (by omega), Below.heap_alloc _ _ _ (by omega)⟩) ?assign ?body ?done ?stop
  case hI =>
    rintro pre A B row ⟨h1, ⟨v1, h2, h3⟩, ⟨v2, h4, h5⟩, h6, h7, h8⟩ hg hr
    rw [hsz] at hr
    refine ⟨h1, ⟨v1, h2.turn hg hr (fun h => h), own_turn h3 hg hr (fun r h => h.elim)⟩, ⟨v2, h4.turn hg hr (fun h => h), own_turn h5 hg hr (fun r h => h.elim)⟩, h6.turn hg hr (fun h => h), h7.turn hg hr (fun h => h), h8.grown hg h8.size (fun k e => ?_)⟩
    rcases hr k e with h | h
    · exact h.elim
    · omega
  case hIx =>
    rintro c pre A B row ⟨h1, ⟨pre0, u, e, h2, h3, h4, h5⟩, h6⟩ hg hr
    rw [hsz] at hr
    refine ⟨h1, ⟨pre0, u, e, h2, h3, h4, h5.turn hg hr⟩, h6.grown hg h6.size (fun k e => ?_)⟩
    rcases hr k e with h | h
    · exact h.elim
    · omega
  case h0 => exact ⟨⟨by simp, fun u h => by cases h⟩, ⟨_, k0, World.ownsRow_nil _ _ _ _⟩, ⟨_, k1, World.ownsRow_nil _ _ _ _⟩, k2, k3, hbW⟩
  case assign =>
    intro l u W K hK
    gi_wp2
    exact hK
  case body =>
    rintro l pre u W q hq hgo hgs ⟨hok, ⟨v1, hv1, hr1⟩, ⟨v2, hv2, hr2⟩, hv3, hv4, hB⟩ hlen
    obtain ⟨A1, c1, rfl, hc1, hc1'⟩ := ownsRow_form hr1
    obtain ⟨A2, c2, rfl, hc2, hc2'⟩ := ownsRow_form hr2
    have hRI : RI w.heap.size q u W W _ _ _ _ _ _ _ _ := ⟨KeepsOthers.refl _, ⟨Below.refl _ _, rfl, rfl⟩, hv1, hv2, hv3, hv4, hgo, hr1, hr2, by omega⟩
    have hq6 : w.heap.size + 6 ≤ q := by omega
    obtain ⟨e0, e1, e2, e3, e4, e5⟩ := hRI.held
    have g0 := hv1.frozen 0; have g1 := hv2.frozen 0; have g2 := hv3.frozen 0; have g3 := hv4.frozen 0
    have m2 := hv3.cell 0; have m3 := hv4.cell 0
    simp only [List.getElem?_toArray, List.getElem?_cons_zero] at m2 m3
    have HRI := Lib.hid hRI; have HOK := Lib.hid hok; have HB := Lib.hid hB
    clear hv1 hr1 hv2 hr2 hv3 hv4 hgo hRI hok hB hit k0 k1 k2 k3 k4 k5
    by_cases ht : u.text = []
    · have htq : u.text.isEmpty = true := by rw [ht]; rfl
      have HT := Lib.hid ht
      clear ht
      gi_wp2_with fail
      refine wpIn_region_held (S := fun w' => w'.cell? ⟨q, 3, none⟩ = some (.int .i64 u.at_)) (by kernel_rfl) (by kernel_rfl) (by rintro ⟨_, _, h⟩; exact h) e5 (fun hHeld => ?_)
      have hRI1 := HRI.out.drew
      obtain ⟨W1, hW1⟩ : ∃ W1, W.drew = W1 := ⟨_, rfl⟩
      have hB1 : Below w.heap.size w W1 := by rw [← hW1]; exact HB.out.drew
      rw [show W.cell? ⟨w.heap.size, 0, none⟩ = W1.cell? ⟨w.heap.size, 0, none⟩ from by rw [← hW1]; rfl] at e0
      rw [hW1] at hHeld hRI1 ⊢
      have HRI1 := Lib.hid hRI1; have HB1 := Lib.hid hB1
      clear hRI1 hB1 hW1 g0 g1 g2 g3 m2 m3 e0 e1 e2 e3 e4 e5
      obtain ⟨e0, e1, -⟩ := HRI1.out.held
      have g0 := HRI1.out.x1.frozen 0; have g1 := HRI1.out.x2.frozen 0; have g2 := HRI1.out.x3.frozen 0; have g3 := HRI1.out.x4.frozen 0
      have m2 := HRI1.out.x3.cell 0; have m3 := HRI1.out.x4.cell 0
      simp only [List.getElem?_toArray, List.getElem?_cons_zero] at m2 m3
      have hqn : w.heap.size ≠ q ∧ w.heap.size + 1 ≠ q ∧ w.heap.size + 2 ≠ q ∧ w.heap.size + 3 ≠ q := ⟨by omega, by omega, by omega, by omega⟩
      have hQ : ∀ (W : World) (p : Addr) (v : Value), W.cell? ⟨q, 3, none⟩ = some (.int .i64 u.at_) → p.block ≠ q → (W.setCell p v).cell? ⟨q, 3, none⟩ = some (.int .i64 u.at_) := fun W p v h hp => (World.cell?_setCell_far _ _ _ _ hp).trans h
      have HQ := Lib.hid hQ
      clear hQ
      refine wpAnyH_take (i := 0) (v := ?_) rfl (by kernel_rfl) (by kernel_rfl) (by kernel_rfl) (fun _ _ _ h => h) (Or.inl ⟨by rfl, ?_⟩) (by assumption) ?_
      rotate_left
      · intro w hSw
        (try dsimp only at hSw)
        go_simp <;> with_reducible rfl
      try simp only [Act.put, List.getElem_toArray, List.getElem_cons_succ, List.getElem_cons_zero, List.setIfInBounds_toArray, List.set_cons_zero, List.set_cons_succ]
      refine wpAnyH_take (i := 1) (v := ?_) rfl (by kernel_rfl) (by kernel_rfl) (by kernel_rfl) (fun _ _ _ h => h) (Or.inl ⟨by rfl, ?_⟩) (by assumption) ?_
      rotate_left
      · intro w hSw
        (try dsimp only at hSw)
        go_simp <;> with_reducible rfl
      try simp only [Act.put, List.getElem_toArray, List.getElem_cons_succ, List.getElem_cons_zero, List.setIfInBounds_toArray, List.set_cons_zero, List.set_cons_succ]
      refine wpAnyH_ready (rs := [2]) (by kernel_rfl) (by simp) ?_
      refine AllReadyH.cons rfl (fun K hK => ?_) AllReadyH.nil
      go_simp
      refine hK.out _ _ ?_ (fun hHeld' => ?_)
      · (try dsimp only)
        exact HQ.out _ _ _ hHeld hqn.1
      clear hK K hHeld
      have hHeld := hHeld'
      clear hHeld'
      refine wpAnyH_ready (rs := [3]) (by kernel_rfl) (by simp) ?_
      refine AllReadyH.cons rfl (fun K hK => ?_) AllReadyH.nil
      go_simp
      refine hK.out _ _ ?_ (fun hHeld' => ?_)
      · (try dsimp only)
        exact HQ.out _ _ _ hHeld hqn.2.1
      clear hK K hHeld
      have hHeld := hHeld'
      clear hHeld'
      refine wpAnyH_ready (rs := [4]) (by kernel_rfl) (by simp) ?_
      refine AllReadyH.cons rfl (fun K hK => ?_) AllReadyH.nil
      go_simp
      refine hK.out _ _ ?_ (fun hHeld' => ?_)
      · (try dsimp only)
        exact HQ.out _ _ _ hHeld hqn.2.2.1
      clear hK K hHeld
      have hHeld := hHeld'
      clear hHeld'
      refine wpAnyH_ready (rs := [5]) (by kernel_rfl) (by simp) ?_
      refine AllReadyH.cons rfl (fun K hK => ?_) AllReadyH.nil
      go_simp
      refine hK.out _ _ ?_ (fun hHeld' => ?_)
      · (try dsimp only)
        exact HQ.out _ _ _ hHeld hqn.2.2.2
      clear hK K hHeld
      have hHeld := hHeld'
      clear hHeld'
      refine wpAnyH_done (by kernel_rfl) ?_ _
      clear hHeld
      have hfin := HRI1.out.left u.at_ 10
      have hko := ((((HRI1.out.oth.trans (KeepsOthers.setCell _ ⟨w.heap.size, 0, none⟩ (.slice none 0 0))).trans (KeepsOthers.setCell _ ⟨w.heap.size + 1, 0, none⟩ (.slice none 0 0))).trans (KeepsOthers.setCell _ ⟨w.heap.size + 2, 0, none⟩ (.int .i64 u.at_))).trans (KeepsOthers.setCell _ ⟨w.heap.size + 3, 0, none⟩ (.int .i64 10)))
      have hbf := ((((HB1.out.setCell (p := ⟨w.heap.size, 0, none⟩) (Nat.le_refl _) (.slice none 0 0)).setCell (p := ⟨w.heap.size + 1, 0, none⟩) (by simp) (.slice none 0 0)).setCell (p := ⟨w.heap.size + 2, 0, none⟩) (by simp) (.int .i64 u.at_)).setCell (p := ⟨w.heap.size + 3, 0, none⟩) (by simp) (.int .i64 10))
      generalize (((W1.setCell ⟨w.heap.size, 0, none⟩ (.slice none 0 0)).setCell ⟨w.heap.size + 1, 0, none⟩ (.slice none 0 0)).setCell ⟨w.heap.size + 2, 0, none⟩ (.int .i64 u.at_)).setCell ⟨w.heap.size + 3, 0, none⟩ (.int .i64 10) = WF at *
      have hpost : StopR w.heap.size w .ret (pre ++ [u]) WF := ⟨rfl, ⟨pre, u, 10, rfl, HOK.out, .inl ⟨HT.out, rfl⟩, hfin⟩, hbf⟩
      clear hfin hbf HRI HRI1 HB HB1 HOK HQ
      gi_wp2
      exact ⟨hko, hpost⟩
    · have htq : u.text.isEmpty = false := by cases hu : u.text with
          | nil => exact absurd hu ht
          | cons _ _ => rfl
      have HT := Lib.hid ht
      clear ht
      by_cases h32 : pre.length = 32
      · have h32I : ((pre.length : Int) == 32) = true := by rw [h32]; rfl
        have H32 := Lib.hid h32
        clear h32
        gi_wp2_with fail
        refine wpIn_region_held (S := fun w' => w'.cell? ⟨q, 3, none⟩ = some (.int .i64 u.at_)) (by kernel_rfl) (by kernel_rfl) (by rintro ⟨_, _, h⟩; exact h) e5 (fun hHeld => ?_)
        have hRI1 := HRI.out.drew
        obtain ⟨W1, hW1⟩ : ∃ W1, W.drew = W1 := ⟨_, rfl⟩
        have hB1 : Below w.heap.size w W1 := by rw [← hW1]; exact HB.out.drew
        rw [show W.cell? ⟨w.heap.size, 0, none⟩ = W1.cell? ⟨w.heap.size, 0, none⟩ from by rw [← hW1]; rfl] at e0
        rw [hW1] at hHeld hRI1 ⊢
        have HRI1 := Lib.hid hRI1; have HB1 := Lib.hid hB1
        clear hRI1 hB1 hW1 g0 g1 g2 g3 m2 m3 e0 e1 e2 e3 e4 e5
        obtain ⟨e0, e1, -⟩ := HRI1.out.held
        have g0 := HRI1.out.x1.frozen 0; have g1 := HRI1.out.x2.frozen 0; have g2 := HRI1.out.x3.frozen 0; have g3 := HRI1.out.x4.frozen 0
        have m2 := HRI1.out.x3.cell 0; have m3 := HRI1.out.x4.cell 0
        simp only [List.getElem?_toArray, List.getElem?_cons_zero] at m2 m3
        have hqn : w.heap.size ≠ q ∧ w.heap.size + 1 ≠ q ∧ w.heap.size + 2 ≠ q ∧ w.heap.size + 3 ≠ q := ⟨by omega, by omega, by omega, by omega⟩
        have hQ : ∀ (W : World) (p : Addr) (v : Value), W.cell? ⟨q, 3, none⟩ = some (.int .i64 u.at_) → p.block ≠ q → (W.setCell p v).cell? ⟨q, 3, none⟩ = some (.int .i64 u.at_) := fun W p v h hp => (World.cell?_setCell_far _ _ _ _ hp).trans h
        have HQ := Lib.hid hQ
        clear hQ
        refine wpAnyH_take (i := 0) (v := ?_) rfl (by kernel_rfl) (by kernel_rfl) (by kernel_rfl) (fun _ _ _ h => h) (Or.inl ⟨by rfl, ?_⟩) (by assumption) ?_
        rotate_left
        · intro w hSw
          (try dsimp only at hSw)
          go_simp <;> with_reducible rfl
        try simp only [Act.put, List.getElem_toArray, List.getElem_cons_succ, List.getElem_cons_zero, List.setIfInBounds_toArray, List.set_cons_zero, List.set_cons_succ]
        refine wpAnyH_take (i := 1) (v := ?_) rfl (by kernel_rfl) (by kernel_rfl) (by kernel_rfl) (fun _ _ _ h => h) (Or.inl ⟨by rfl, ?_⟩) (by assumption) ?_
        rotate_left
        · intro w hSw
          (try dsimp only at hSw)
          go_simp <;> with_reducible rfl
        try simp only [Act.put, List.getElem_toArray, List.getElem_cons_succ, List.getElem_cons_zero, List.setIfInBounds_toArray, List.set_cons_zero, List.set_cons_succ]
        refine wpAnyH_ready (rs := [2]) (by kernel_rfl) (by simp) ?_
        refine AllReadyH.cons rfl (fun K hK => ?_) AllReadyH.nil
        go_simp
        refine hK.out _ _ ?_ (fun hHeld' => ?_)
        · (try dsimp only)
          exact HQ.out _ _ _ hHeld hqn.1
        clear hK K hHeld
        have hHeld := hHeld'
        clear hHeld'
        refine wpAnyH_ready (rs := [3]) (by kernel_rfl) (by simp) ?_
        refine AllReadyH.cons rfl (fun K hK => ?_) AllReadyH.nil
        go_simp
        refine hK.out _ _ ?_ (fun hHeld' => ?_)
        · (try dsimp only)
          exact HQ.out _ _ _ hHeld hqn.2.1
        clear hK K hHeld
        have hHeld := hHeld'
        clear hHeld'
        refine wpAnyH_ready (rs := [4]) (by kernel_rfl) (by simp) ?_
        refine AllReadyH.cons rfl (fun K hK => ?_) AllReadyH.nil
        go_simp
        refine hK.out _ _ ?_ (fun hHeld' => ?_)
        · (try dsimp only)
          exact HQ.out _ _ _ hHeld hqn.2.2.1
        clear hK K hHeld
        have hHeld := hHeld'
        clear hHeld'
        refine wpAnyH_ready (rs := [5]) (by kernel_rfl) (by simp) ?_
        refine AllReadyH.cons rfl (fun K hK => ?_) AllReadyH.nil
        go_simp
        refine hK.out _ _ ?_ (fun hHeld' => ?_)
        · (try dsimp only)
          exact HQ.out _ _ _ hHeld hqn.2.2.2
        clear hK K hHeld
        have hHeld := hHeld'
        clear hHeld'
        refine wpAnyH_done (by kernel_rfl) ?_ _
        clear hHeld
        have hfin := HRI1.out.left u.at_ 11
        have hko := ((((HRI1.out.oth.trans (KeepsOthers.setCell _ ⟨w.heap.size, 0, none⟩ (.slice none 0 0))).trans (KeepsOthers.setCell _ ⟨w.heap.size + 1, 0, none⟩ (.slice none 0 0))).trans (KeepsOthers.setCell _ ⟨w.heap.size + 2, 0, none⟩ (.int .i64 u.at_))).trans (KeepsOthers.setCell _ ⟨w.heap.size + 3, 0, none⟩ (.int .i64 11)))
        have hbf := ((((HB1.out.setCell (p := ⟨w.heap.size, 0, none⟩) (Nat.le_refl _) (.slice none 0 0)).setCell (p := ⟨w.heap.size + 1, 0, none⟩) (by simp) (.slice none 0 0)).setCell (p := ⟨w.heap.size + 2, 0, none⟩) (by simp) (.int .i64 u.at_)).setCell (p := ⟨w.heap.size + 3, 0, none⟩) (by simp) (.int .i64 11))
        generalize (((W1.setCell ⟨w.heap.size, 0, none⟩ (.slice none 0 0)).setCell ⟨w.heap.size + 1, 0, none⟩ (.slice none 0 0)).setCell ⟨w.heap.size + 2, 0, none⟩ (.int .i64 u.at_)).setCell ⟨w.heap.size + 3, 0, none⟩ (.int .i64 11) = WF at *
        have hpost : StopR w.heap.size w .ret (pre ++ [u]) WF := ⟨rfl, ⟨pre, u, 11, rfl, HOK.out, .inr ⟨HT.out, H32.out, rfl⟩, hfin⟩, hbf⟩
        clear hfin hbf HRI HRI1 HB HB1 HOK HQ
        gi_wp2
        exact ⟨hko, hpost⟩
      · have h32I : ((pre.length : Int) == 32) = false := by rw [beq_eq_false_iff_ne]; omega
        gi_wp2_with fail
        refine wpIn_region_held (S := fun w' => w'.cell? ⟨q, 0, none⟩ = some (.int .u32 u.x.1) ∧ w'.cell? ⟨q, 1, none⟩ = some (.int .u32 u.x.2) ∧ w'.cell? ⟨q, 2, none⟩ = some (.string (asB u.text))) (by kernel_rfl) (by kernel_rfl) (by rintro ⟨_, _, h⟩; exact h) ⟨e2, e3, e4⟩ (fun hHeld => ?_)
        have hRI1 := HRI.out.drew
        obtain ⟨W1, hW1⟩ : ∃ W1, W.drew = W1 := ⟨_, rfl⟩
        have hB1 : Below w.heap.size w W1 := by rw [← hW1]; exact HB.out.drew
        rw [hW1] at hHeld hRI1 ⊢
        have hrs : RS w.heap.size q u W pre A1 A2 c1 c2 false false 0 0 undef undef undef undef undef undef W1 := ⟨⟨_, _, _, _, _, _, hRI1, fun _ => ⟨rfl, rfl, rfl⟩, fun e => (by cases e), fun _ => ⟨rfl, rfl, rfl⟩, fun e => (by cases e)⟩, fun e => (by cases e), fun e => (by cases e), fun e => (by cases e), fun e => (by cases e), fun e => (by cases e), fun e => (by cases e)⟩
        have HRS := Lib.hid hrs
        clear hRI1 hrs hB1 hW1 g0 g1 g2 g3 m2 m3 e0 e1 e2 e3 e4 e5
        refine wpAnyH_take (i := 1) (v := ?_) rfl (by kernel_rfl) (by kernel_rfl) (by kernel_rfl) (fun _ _ _ h => h) (Or.inl ⟨by rfl, ?_⟩) (by assumption) ?_
        rotate_left
        · intro w hSw
          (try dsimp only at hSw)
          go_simp <;> with_reducible rfl
        try simp only [Act.put, List.getElem_toArray, List.getElem_cons_succ, List.getElem_cons_zero, List.setIfInBounds_toArray, List.set_cons_zero, List.set_cons_succ]
        refine wpAnyH_take (i := 2) (v := ?_) rfl (by kernel_rfl) (by kernel_rfl) (by kernel_rfl) (fun _ _ _ h => h) (Or.inl ⟨by rfl, ?_⟩) (by assumption) ?_
        rotate_left
        · intro w hSw
          (try dsimp only at hSw)
          go_simp <;> with_reducible rfl
        try simp only [Act.put, List.getElem_toArray, List.getElem_cons_succ, List.getElem_cons_zero, List.setIfInBounds_toArray, List.set_cons_zero, List.set_cons_succ]
        refine wpAnyH_take (i := 6) (v := ?_) rfl (by kernel_rfl) (by kernel_rfl) (by kernel_rfl) (fun _ _ _ h => h) (Or.inl ⟨by rfl, ?_⟩) (by assumption) ?_
        rotate_left
        · intro w hSw
          (try dsimp only at hSw)
          go_simp <;> with_reducible rfl
        try simp only [Act.put, List.getElem_toArray, List.getElem_cons_succ, List.getElem_cons_zero, List.setIfInBounds_toArray, List.set_cons_zero, List.set_cons_succ]
        refine wpAnyH_take (i := 7) (v := ?_) rfl (by kernel_rfl) (by kernel_rfl) (by kernel_rfl) (fun _ _ _ h => h) (Or.inl ⟨by rfl, ?_⟩) (by assumption) ?_
        rotate_left
        · intro w hSw
          (try dsimp only at hSw)
          go_simp <;> with_reducible rfl
        try simp only [Act.put, List.getElem_toArray, List.getElem_cons_succ, List.getElem_cons_zero, List.setIfInBounds_toArray, List.set_cons_zero, List.set_cons_succ]
        have hn32 : pre.length ≤ 32 := HOK.out.1
        refine wpAnyH_inv (fun fuel listed a w' => ∃ m0 m5 k1 k2 u28 u31 u32 u33 u36 u37, fuel = 2 + leftR m0 m5 k1 k2 ∧ (k1 ≤ 2 ∧ k2 ≤ 2) ∧ listed = #[m0, true, true, decide (1 ≤ k1), decide (2 ≤ k1), m5, true, true, decide (1 ≤ k2), decide (2 ≤ k2), false, false] ∧ a = { tmps := #[wptr g, .string s, undef, undef, wptr w.heap.size, wptr (w.heap.size + 1), wptr (w.heap.size + 2), wptr (w.heap.size + 3), wptr q, wptr g, .bool true, .bool false, wptr g, .string s, .func (.func 91) #[] #[wptr (w.heap.size + 5), wptr (w.heap.size + 4)], .agg #[.int .u32 u.x.1, .int .u32 u.x.2, .string (asB u.text), .int .i64 u.at_], .bool false, (.pointer (some ⟨q, 2, none⟩)), .string (asB u.text), .bool false, undef, undef, .bool false, .slice A1 pre.length c1, .int .i64 pre.length, .bool false, undef, undef, u28, (.pointer (some ⟨q, 0, none⟩)), sndV u.x, u31, u32, u33, (.pointer (some ⟨q, 2, none⟩)), .string (asB u.text), u36, u37, undef, undef], defers := [] } ∧ RS w.heap.size q u W pre A1 A2 c1 c2 m0 m5 k1 k2 u28 u31 u32 u33 u36 u37 w') ?step ?zero 8 _ _ _ ⟨false, false, 0, 0, undef, undef, undef, undef, undef, undef, rfl, ⟨by omega, by omega⟩, rfl, rfl, HRS.out⟩
        case zero =>
          rintro listed a w' ⟨m0, m5, k1, k2, u28, u31, u32, u33, u36, u37, hf, -⟩
          omega
        case step =>
          rintro fuel listed a w' ⟨m0, m5, k1, k2, u28, u31, u32, u33, u36, u37, hf, ⟨hk1, hk2⟩, rfl, rfl, hI⟩
          have HI := Lib.hid hI
          clear hI
          have hv1 := HI.out.a1
          have hv2 := HI.out.a2
          by_cases hfin : k2 = 2
          · subst hfin
            obtain ⟨rfl, rfl⟩ := hv2 rfl
            obtain rfl := hv1 rfl
            left
            obtain rfl : fuel = 1 := by unfold leftR at hf; simp at hf; omega
            clear hf hv1 hv2
            have hri := HI.out.fin
            obtain ⟨A3, c3, rfl, hc3, -⟩ := ownsRow_form hri.r1
            obtain ⟨A4, c4, rfl, hc4, -⟩ := ownsRow_form hri.r2
            obtain ⟨e0, e1, e2, e3, e4, -⟩ := hri.held
            have g0 := hri.x1.frozen 0; have g1 := hri.x2.frozen 0
            have HRI2 := Lib.hid hri
            clear hri HI HRS HRI
            have hHeld : w'.cell? ⟨q, 0, none⟩ = some (.int .u32 u.x.1) ∧ w'.cell? ⟨q, 1, none⟩ = some (.int .u32 u.x.2) ∧ w'.cell? ⟨q, 2, none⟩ = some (.string (asB u.text)) := ⟨e2, e3, e4⟩
            have hr1 := HRI2.out.set1 (.slice A3 (pre.length + 1) c3) hq6
            have hr2 := hr1.set2 (.slice A4 (pre.length + 1) c4) hq6
            have HR1 := Lib.hid hr1; have HR2 := Lib.hid hr2
            clear hr1 hr2
            refine wpAnyH_ready (rs := [10]) (by kernel_rfl) (by simp) ?_
            refine AllReadyH.cons rfl (fun K hK => ?_) AllReadyH.nil
            go_simp
            refine hK.out _ _ ?_ (fun hHeld' => ?_)
            · (try dsimp only)
              exact ⟨HR1.out.held.2.2.1, HR1.out.held.2.2.2.1, HR1.out.held.2.2.2.2.1⟩
            clear hK K hHeld
            have hHeld := hHeld'
            clear hHeld'
            refine wpAnyH_ready (rs := [11]) (by kernel_rfl) (by simp) ?_
            refine AllReadyH.cons rfl (fun K hK => ?_) AllReadyH.nil
            go_simp
            refine hK.out _ _ ?_ (fun hHeld' => ?_)
            · (try dsimp only)
              exact ⟨HR2.out.held.2.2.1, HR2.out.held.2.2.2.1, HR2.out.held.2.2.2.2.1⟩
            clear hK K hHeld hHeld'
            refine wpAnyH_done (by kernel_rfl) ?_ _
            have hpost : KeepsOthers W ((w'.setCell ⟨w.heap.size, 0, none⟩ (.slice A3 (pre.length + 1) c3)).setCell ⟨w.heap.size + 1, 0, none⟩ (.slice A4 (pre.length + 1) c4)) ∧ KeepU w.heap.size (w.heap.size + 4) (w.heap.size + 5) W ((w'.setCell ⟨w.heap.size, 0, none⟩ (.slice A3 (pre.length + 1) c3)).setCell ⟨w.heap.size + 1, 0, none⟩ (.slice A4 (pre.length + 1) c4)) ∧
                InvR w.heap.size w (pre ++ [u]) ((w'.setCell ⟨w.heap.size, 0, none⟩ (.slice A3 (pre.length + 1) c3)).setCell ⟨w.heap.size + 1, 0, none⟩ (.slice A4 (pre.length + 1) c4)) := by
              have hr := HR2.out
              have hl1 : (pre ++ [u]).length = pre.length + 1 := by simp
              refine ⟨hr.oth, hr.kp, ⟨by rw [hl1]; omega, ?_⟩, ⟨_, hr.x1, by rw [hl1]; exact hr.r1⟩, ⟨_, hr.x2, by rw [hl1]; exact hr.r2⟩, hr.x3, hr.x4, HB.out.trans hr.kp.1⟩
              intro v hv
              rcases List.mem_append.1 hv with hv | hv
              · exact HOK.out.2 v hv
              · rw [List.mem_singleton] at hv
                subst hv
                exact HT.out
            have HPOST := Lib.hid hpost
            clear hpost HR1 HR2 HRI2
            gi_wp2
            exact HPOST.out
          · right
            refine ⟨ne_chk ?_, fun i hi => ?_⟩
            · clear HI HRS HRI HOK HB HT hf
              rcases (by omega : k1 = 0 ∨ k1 = 1 ∨ k1 = 2) with rfl | rfl | rfl <;> rcases (by omega : k2 = 0 ∨ k2 = 1) with rfl | rfl <;> cases m0 <;> cases m5 <;> first | exact absurd (hv1 rfl) (by decide) | kernel_rfl
            have hp : chkR m0 m5 k1 k2 i = true := by
              refine mem_chk ?_ hi
              clear HI HRS HRI HOK HB HT hf hi
              rcases (by omega : k1 = 0 ∨ k1 = 1 ∨ k1 = 2) with rfl | rfl | rfl <;> rcases (by omega : k2 = 0 ∨ k2 = 1) with rfl | rfl <;> cases m0 <;> cases m5 <;> first | exact absurd (hv1 rfl) (by decide) | kernel_rfl
            obtain ⟨e0, e1, e2, e3, e4, -⟩ := HI.out.held
            clear hi hv1 hv2
            rcases chkR_cases hp with ⟨rfl, rfl⟩ | ⟨rfl, rfl⟩ | ⟨rfl, rfl⟩ | ⟨rfl, rfl⟩ | ⟨rfl, rfl, rfl⟩ | ⟨rfl, rfl, rfl, rfl⟩
            · refine ⟨_, rfl, fun K hK => ?_⟩
              have hn := HI.out.load0
              have HKK := Lib.hid (hK _ _ ⟨hn.held.2.2.1, hn.held.2.2.2.1, hn.held.2.2.2.2.1⟩ ⟨true, m5, k1, k2, _, _, _, _, _, _, by unfold leftR at hf ⊢; simp at hf ⊢; omega, ⟨by omega, by omega⟩, rfl, rfl, hn⟩)
              clear hK hp hn
              go_simp
              exact HKK.out
            · refine ⟨_, rfl, fun K hK => ?_⟩
              have hn := HI.out.load5
              have HKK := Lib.hid (hK _ _ ⟨hn.held.2.2.1, hn.held.2.2.2.1, hn.held.2.2.2.2.1⟩ ⟨m0, true, k1, k2, _, _, _, _, _, _, by unfold leftR at hf ⊢; simp at hf ⊢; omega, ⟨by omega, by omega⟩, rfl, rfl, hn⟩)
              clear hK hp hn
              go_simp
              exact HKK.out
            · refine ⟨_, rfl, fun K hK => ?_⟩
              have hn := HI.out.make1
              have HKK := Lib.hid (hK _ _ ⟨hn.held.2.2.1, hn.held.2.2.2.1, hn.held.2.2.2.2.1⟩ ⟨m0, m5, 1, k2, _, _, _, _, _, _, by unfold leftR at hf ⊢; simp at hf ⊢; omega, ⟨by omega, by omega⟩, rfl, rfl, hn⟩)
              clear hK hp hn
              go_simp
              exact HKK.out
            · refine ⟨_, rfl, fun K hK => ?_⟩
              have hn := HI.out.make2
              have HKK := Lib.hid (hK _ _ ⟨hn.held.2.2.1, hn.held.2.2.2.1, hn.held.2.2.2.2.1⟩ ⟨m0, m5, k1, 1, _, _, _, _, _, _, by unfold leftR at hf ⊢; simp at hf ⊢; omega, ⟨by omega, by omega⟩, rfl, rfl, hn⟩)
              clear hK hp hn
              go_simp
              exact HKK.out
            · refine ⟨_, rfl, fun K hK => ?_⟩
              have HKK := Lib.hid hK
              obtain rfl := HI.out.l0 rfl
              obtain ⟨j, rfl, hj⟩ := HI.out.s1 rfl
              obtain ⟨hrow, hbz⟩ := HI.out.row1
              clear hK hp e0 e1 e2 e3 e4
              refine step_append_any _ rfl (.tmp 28) (.tmp 31) 27 rfl (w.heap.size + 6) 30 i1 (.agg #[.int .u32 0, .int .u32 0]) 2 8 Tryz.underlying27 hi1 hx0 hx1 hx2 rfl (by decide) (.slice A1 pre.length c1) pre.length ((pre.map (·.x)).flatMap sndC) (by simp [Act.eval]) hrow (j + 1) (some ⟨j, 0, none⟩) 1 1 [.int .u32 u.x.1, .int .u32 u.x.2] (by simp [Act.eval]) (reads_blk hj rfl) (by simp [Value.oneCell']) (by unfold maxLen; omega) (by omega) hbz ?_
              intro v' w'' ho hg _
              have hn := HI.out.app1 ho hg
              refine HKK.out _ _ ⟨hn.held.2.2.1, hn.held.2.2.2.1, hn.held.2.2.2.2.1⟩ ⟨true, m5, 2, k2, _, _, _, _, _, _, by unfold leftR at hf ⊢; simp at hf ⊢; omega, ⟨by omega, by omega⟩, rfl, rfl, hn⟩
            · refine ⟨_, rfl, fun K hK => ?_⟩
              have HKK := Lib.hid hK
              obtain rfl := HI.out.l5 rfl
              obtain ⟨j, rfl, hj⟩ := HI.out.s2 rfl
              obtain ⟨hrow, hbz⟩ := HI.out.row2
              clear hK hp e0 e1 e2 e3 e4
              refine step_append_any _ rfl (.tmp 33) (.tmp 36) 22 rfl (w.heap.size + 6) 9 i2 (.string ByteArray.empty) 1 16 Tryz.underlying22 hi2 hy0 hy1 hy2 rfl (by decide) (.slice A2 pre.length c2) pre.length ((pre.map (·.text)).map fun t => .string (asB t)) (by simp [Act.eval]) hrow (j + 1) (some ⟨j, 0, none⟩) 1 1 [.string (asB u.text)] (by simp [Act.eval]) (reads_blk hj rfl) (by simp [Value.oneCell']) (by unfold maxLen; omega) (by omega) hbz ?_
              intro v' w'' ho hg _
              have hn := HI.out.app2 ho hg
              refine HKK.out _ _ ⟨hn.held.2.2.1, hn.held.2.2.2.1, hn.held.2.2.2.2.1⟩ ⟨m0, true, 2, 2, _, _, _, _, _, _, by unfold leftR at hf ⊢; simp at hf ⊢; omega, ⟨by omega, by omega⟩, rfl, rfl, hn⟩
  case done =>
    rintro D xs W hD rfl ⟨hok, ⟨v1, hv1, hr1⟩, ⟨v2, hv2, hr2⟩, hv3, hv4, hB⟩ hK
    obtain ⟨A1, c1, rfl, hc1, hc1'⟩ := ownsRow_form hr1
    obtain ⟨A2, c2, rfl, hc2, hc2'⟩ := ownsRow_form hr2
    have hRE : readR L ms (bs s) = ⟨xs.map (·.x), xs.map (·.text), 0, 0⟩ := by rw [HR.out, readL_all hok]
    have HRE := Lib.hid hRE
    have e0 := hv1.cell 0; have e1 := hv2.cell 0; have m2 := hv3.cell 0; have m3 := hv4.cell 0
    simp only [List.getElem?_toArray, List.getElem?_cons_zero] at e0 e1 m2 m3
    have g0 := hv1.frozen 0; have g1 := hv2.frozen 0; have g2 := hv3.frozen 0; have g3 := hv4.frozen 0
    obtain ⟨W1, hW1⟩ : ∃ W1, W.drew = W1 := ⟨_, rfl⟩
    have k0 : Blk W1 w.heap.size _ _ := hW1 ▸ hv1.drew
    have k1 : Blk W1 (w.heap.size + 1) _ _ := hW1 ▸ hv2.drew
    have k2 : Blk W1 (w.heap.size + 2) _ _ := hW1 ▸ hv3.drew
    have k3 : Blk W1 (w.heap.size + 3) _ _ := hW1 ▸ hv4.drew
    have r1 : W1.ownsRow (w.heap.size + 6) 30 2 (.slice A1 xs.length c1) xs.length ((xs.map (·.x)).flatMap sndC) := by rw [← hW1]; exact hr1
    have r2 : W1.ownsRow (w.heap.size + 6) 9 1 (.slice A2 xs.length c2) xs.length ((xs.map (·.text)).map fun t => .string (asB t)) := by rw [← hW1]; exact hr2
    have hB1 : Below w.heap.size w W1 := by rw [← hW1]; exact hB.drew
    have hK1 : W1.heap[D]? = some (.deferred (some [])) := by rw [← hW1]; exact hK
    have HK0 := Lib.hid k0; have HK1 := Lib.hid k1; have HK2 := Lib.hid k2; have HK3 := Lib.hid k3; have HR1 := Lib.hid r1; have HR2 := Lib.hid r2; have HB1 := Lib.hid hB1; have HKD := Lib.hid hK1
    clear hv1 hv2 hv3 hv4 hr1 hr2 hB hK hRE hok k0 k1 k2 k3 r1 r2 hB1 hK1 hit
    gi_wp2_with fail
    refine (wpIn_wide (c := .region 10 _ _) (n := 4)).2 ?_
    refine wp_region_held_drew (S := fun w' => w'.cell? ⟨w.heap.size, 0, none⟩ = some (.slice A1 xs.length c1) ∧ w'.cell? ⟨w.heap.size + 1, 0, none⟩ = some (.slice A2 xs.length c2)) (by kernel_rfl) ⟨e0, e1⟩ (fun hHeld => ?_)
    rw [hW1] at hHeld ⊢
    clear hW1 e0 e1 m2 m3 g0 g1 g2 g3
    have e0 := HK0.out.cell 0; have e1 := HK1.out.cell 0; have m2 := HK2.out.cell 0; have m3 := HK3.out.cell 0
    simp only [List.getElem?_toArray, List.getElem?_cons_zero] at e0 e1 m2 m3
    have g0 := HK0.out.frozen 0; have g1 := HK1.out.frozen 0; have g2 := HK2.out.frozen 0; have g3 := HK3.out.frozen 0
    have s1 := HK0.out.set_ 0 (.slice A1 xs.length c1)
    have t1 := HK1.out.far (p := ⟨w.heap.size, 0, none⟩) (by simp) (.slice A1 xs.length c1)
    have s2 := s1.far (p := ⟨w.heap.size + 1, 0, none⟩) (by simp) (.slice A2 xs.length c2)
    have t2 := t1.set_ 0 (.slice A2 xs.length c2)
    have s3 := s2.far (p := ⟨w.heap.size + 2, 0, none⟩) (by simp) (.int .i64 0)
    have t3 := t2.far (p := ⟨w.heap.size + 2, 0, none⟩) (by simp) (.int .i64 0)
    have s4 := s3.far (p := ⟨w.heap.size + 3, 0, none⟩) (by simp) (.int .i64 0)
    have t4 := t3.far (p := ⟨w.heap.size + 3, 0, none⟩) (by simp) (.int .i64 0)
    have p4 := (((HK2.out.far (p := ⟨w.heap.size, 0, none⟩) (by simp) (.slice A1 xs.length c1)).far (p := ⟨w.heap.size + 1, 0, none⟩) (by simp) (.slice A2 xs.length c2)).set_ 0 (.int .i64 0)).far (p := ⟨w.heap.size + 3, 0, none⟩) (by simp) (.int .i64 0)
    have q4 := (((HK3.out.far (p := ⟨w.heap.size, 0, none⟩) (by simp) (.slice A1 xs.length c1)).far (p := ⟨w.heap.size + 1, 0, none⟩) (by simp) (.slice A2 xs.length c2)).far (p := ⟨w.heap.size + 2, 0, none⟩) (by simp) (.int .i64 0)).set_ 0 (.int .i64 0)
    have r4 := ownsRow_setCell_below (ownsRow_setCell_below (ownsRow_setCell_below (ownsRow_setCell_below HR1.out (a := ⟨w.heap.size, 0, none⟩) (by simp) (.slice A1 xs.length c1)) (a := ⟨w.heap.size + 1, 0, none⟩) (by simp) (.slice A2 xs.length c2)) (a := ⟨w.heap.size + 2, 0, none⟩) (by simp) (.int .i64 0)) (a := ⟨w.heap.size + 3, 0, none⟩) (by simp) (.int .i64 0)
    have z4 := ownsRow_setCell_below (ownsRow_setCell_below (ownsRow_setCell_below (ownsRow_setCell_below HR2.out (a := ⟨w.heap.size, 0, none⟩) (by simp) (.slice A1 xs.length c1)) (a := ⟨w.heap.size + 1, 0, none⟩) (by simp) (.slice A2 xs.length c2)) (a := ⟨w.heap.size + 2, 0, none⟩) (by simp) (.int .i64 0)) (a := ⟨w.heap.size + 3, 0, none⟩) (by simp) (.int .i64 0)
    have b4 := (((HB1.out.setCell (p := ⟨w.heap.size, 0, none⟩) (Nat.le_refl _) (.slice A1 xs.length c1)).setCell (p := ⟨w.heap.size + 1, 0, none⟩) (by simp) (.slice A2 xs.length c2)).setCell (p := ⟨w.heap.size + 2, 0, none⟩) (by simp) (.int .i64 0)).setCell (p := ⟨w.heap.size + 3, 0, none⟩) (by simp) (.int .i64 0)
    have d4 : ((((W1.setCell ⟨w.heap.size, 0, none⟩ (.slice A1 xs.length c1)).setCell ⟨w.heap.size + 1, 0, none⟩ (.slice A2 xs.length c2)).setCell ⟨w.heap.size + 2, 0, none⟩ (.int .i64 0)).setCell ⟨w.heap.size + 3, 0, none⟩ (.int .i64 0)).heap[D]? = some (.deferred (some [])) :=
      ((((KeepsOthers.setCell W1 ⟨w.heap.size, 0, none⟩ (.slice A1 xs.length c1)).trans (KeepsOthers.setCell _ ⟨w.heap.size + 1, 0, none⟩ (.slice A2 xs.length c2))).trans (KeepsOthers.setCell _ ⟨w.heap.size + 2, 0, none⟩ (.int .i64 0))).trans (KeepsOthers.setCell _ ⟨w.heap.size + 3, 0, none⟩ (.int .i64 0))).same D _ HKD.out rfl
    have h1 : ∀ u1, (W1.setCell ⟨w.heap.size, 0, none⟩ u1).cell? ⟨w.heap.size + 1, 0, none⟩ = some (.slice A2 xs.length c2) := fun u1 => (World.cell?_setCell_far _ _ _ _ (by simp)).trans e1
    have HS1 := Lib.hid s1; have HS2 := Lib.hid s2; have HS3 := Lib.hid s3; have HS4 := Lib.hid s4; have HT1 := Lib.hid t1; have HT2 := Lib.hid t2; have HT3 := Lib.hid t3; have HT4 := Lib.hid t4; have HP4 := Lib.hid p4; have HQ4 := Lib.hid q4; have HR4 := Lib.hid r4; have HZ4 := Lib.hid z4; have HB4 := Lib.hid b4; have HD4 := Lib.hid d4
    clear s1 s2 s3 s4 t1 t2 t3 t4 p4 q4 r4 z4 b4 d4 h1
    refine wpAnyH_take (i := 0) (v := ?_) rfl (by kernel_rfl) (by kernel_rfl) (by kernel_rfl) (fun c a W h => quietM 38 (read_slots 38 (by decide)) _ c a W h) (Or.inl ⟨by rfl, ?_⟩) (by assumption) ?_
    rotate_left
    · intro w hSw
      (try dsimp only at hSw)
      go_simp <;> with_reducible rfl
    try simp only [Act.put, List.getElem_toArray, List.getElem_cons_succ, List.getElem_cons_zero, List.setIfInBounds_toArray, List.set_cons_zero, List.set_cons_succ]
    refine wpAnyH_take (i := 1) (v := ?_) rfl (by kernel_rfl) (by kernel_rfl) (by kernel_rfl) (fun c a W h => quietM 39 (read_slots 39 (by decide)) _ c a W h) (Or.inl ⟨by rfl, ?_⟩) (by assumption) ?_
    rotate_left
    · intro w hSw
      (try dsimp only at hSw)
      go_simp <;> with_reducible rfl
    try simp only [Act.put, List.getElem_toArray, List.getElem_cons_succ, List.getElem_cons_zero, List.setIfInBounds_toArray, List.set_cons_zero, List.set_cons_succ]
    refine wpAnyH_ready (rs := [2]) (by kernel_rfl) (by simp) ?_
    refine AllReadyH.cons rfl (fun K hK => ?_) AllReadyH.nil
    go_simp
    refine hK.out _ _ ?_ (fun hHeld' => ?_)
    · (try dsimp only)
      exact ⟨by simpa using HS1.out.cell 0, by simpa using HT1.out.cell 0⟩
    clear hK K hHeld
    have hHeld := hHeld'
    clear hHeld'
    refine wpAnyH_ready (rs := [3]) (by kernel_rfl) (by simp) ?_
    refine AllReadyH.cons rfl (fun K hK => ?_) AllReadyH.nil
    go_simp
    refine hK.out _ _ ?_ (fun hHeld' => ?_)
    · (try dsimp only)
      exact ⟨by simpa using HS2.out.cell 0, by simpa using HT2.out.cell 0⟩
    clear hK K hHeld
    have hHeld := hHeld'
    clear hHeld'
    refine wpAnyH_ready (rs := [4]) (by kernel_rfl) (by simp) ?_
    refine AllReadyH.cons rfl (fun K hK => ?_) AllReadyH.nil
    go_simp
    refine hK.out _ _ ?_ (fun hHeld' => ?_)
    · (try dsimp only)
      exact ⟨by simpa using HS3.out.cell 0, by simpa using HT3.out.cell 0⟩
    clear hK K hHeld
    have hHeld := hHeld'
    clear hHeld'
    refine wpAnyH_ready (rs := [5]) (by kernel_rfl) (by simp) ?_
    refine AllReadyH.cons rfl (fun K hK => ?_) AllReadyH.nil
    go_simp
    refine hK.out _ _ ?_ (fun hHeld' => ?_)
    · (try dsimp only)
      exact ⟨by simpa using HS4.out.cell 0, by simpa using HT4.out.cell 0⟩
    clear hK K hHeld
    have hHeld := hHeld'
    clear hHeld'
    refine wpAnyH_done (by kernel_rfl) ?_ _
    clear hHeld e0 e1 m2 m3 g0 g1 g2 g3
    generalize (((W1.setCell ⟨w.heap.size, 0, none⟩ (.slice A1 xs.length c1)).setCell ⟨w.heap.size + 1, 0, none⟩ (.slice A2 xs.length c2)).setCell ⟨w.heap.size + 2, 0, none⟩ (.int .i64 0)).setCell ⟨w.heap.size + 3, 0, none⟩ (.int .i64 0) = W2 at *
    have ha := (Blk.cell (show Blk (W2.putObj D (.deferred none)) w.heap.size 27 _ from (World.putObj_heap_other (by omega)).trans HS4.out) 0)
    have hb := (Blk.cell (show Blk (W2.putObj D (.deferred none)) (w.heap.size + 1) 22 _ from (World.putObj_heap_other (by omega)).trans HT4.out) 0)
    have hc := (Blk.cell (show Blk (W2.putObj D (.deferred none)) (w.heap.size + 2) 3 _ from (World.putObj_heap_other (by omega)).trans HP4.out) 0)
    have hd := (Blk.cell (show Blk (W2.putObj D (.deferred none)) (w.heap.size + 3) 33 _ from (World.putObj_heap_other (by omega)).trans HQ4.out) 0)
    have hK2 := HD4.out
    have hro := own_mono (ownsRow_putObj HR4.out (.deferred none) hK2 rfl) (show w.heap.size ≤ w.heap.size + 6 by omega)
    have hzo := own_mono (ownsRow_putObj HZ4.out (.deferred none) hK2 rfl) (show w.heap.size ≤ w.heap.size + 6 by omega)
    have hBo := HB4.out.trans (below_put (n := w.heap.size) (o' := .deferred none) (show w.heap.size ≤ D by omega) hK2)
    gi_wp2
    refine ⟨by simp, .inl ⟨_, _, rfl, run_takeDeferred hK2, ?_⟩⟩
    generalize W2.putObj D (.deferred none) = WF at *
    refine ⟨.tuple #[.slice A1 xs.length c1, .slice A2 xs.length c2, .int .i64 0, .int .i64 0], by simp [results, Tryz.results43, go_sem, ha, hb, hc, hd], ?_⟩
    rw [HRE.out]
    refine ⟨_, _, rfl, ?_, ?_, hBo⟩
    · simpa using hro
    · simpa using hzo
  case stop =>
    rintro D c pre W hD ⟨rest, hrest⟩ ⟨rfl, ⟨pre0, u, e, rfl, hok, hcase, h0, h1, h2, h3⟩, hB⟩ hK
    have hRE : readR L ms (bs s) = ⟨[], [], u.at_, e⟩ := by
      rw [HR.out, ← hrest, List.append_assoc, List.singleton_append]
      rcases hcase with ⟨c1, rfl⟩ | ⟨c1, c2, rfl⟩
      · exact readL_bad hok c1
      · exact readL_long hok c1 c2
    have HRE := Lib.hid hRE
    have ha := (Blk.cell (show Blk (W.putObj D (.deferred none)) w.heap.size 27 _ from (World.putObj_heap_other (by omega)).trans h0) 0)
    have hb := (Blk.cell (show Blk (W.putObj D (.deferred none)) (w.heap.size + 1) 22 _ from (World.putObj_heap_other (by omega)).trans h1) 0)
    have hc := (Blk.cell (show Blk (W.putObj D (.deferred none)) (w.heap.size + 2) 3 _ from (World.putObj_heap_other (by omega)).trans h2) 0)
    have hd := (Blk.cell (show Blk (W.putObj D (.deferred none)) (w.heap.size + 3) 33 _ from (World.putObj_heap_other (by omega)).trans h3) 0)
    have hBo := hB.trans (below_put (n := w.heap.size) (o' := .deferred none) (show w.heap.size ≤ D by omega) hK)
    clear hRE hcase hrest hit
    gi_wp2
    refine ⟨by simp, .inl ⟨_, _, rfl, run_takeDeferred hK, ?_⟩⟩
    generalize W.putObj D (.deferred none) = WF at *
    refine ⟨.tuple #[.slice none 0 0, .slice none 0 0, .int .i64 u.at_, .int .i64 e], by simp [results, Tryz.results43, go_sem, ha, hb, hc, hd], ?_⟩
    rw [HRE.out]
    exact ⟨_, _, rfl, World.ownsRow_nil _ _ _ _, World.ownsRow_nil _ _ _ _, hBo⟩
end Go.Proofs.YtohggdfplmlinaaGreatDoor
