/-
  layer 37: what isoglosses are, as values; slices of slices of ints that are read. Conditions: none.
-/
import Derived.Test.YtgimhjkijpcgjaaDoorGac
import Derived.Test.YtgimhjkijpcgjaaDoorGad
import Derived.Deep.OwnRows
import Derived.Test.YtgimhjkijpcgjaaDoorGab
import Derived.Test.YtgimhjkijpcgjaaDoorShelf
import Derived.Test.YtgimhjkijpcgjaaDoorShelf3
import Derived.Deep.QuietTactic
import Derived.BigQuiet
namespace Go.Proofs.YtgimhjkijpcgjaaDoor
open Go.RowKit Go.Lib

/-- A slice of slices of ints, read. -/
def ReadII (w : World) (B : Nat) (A : Option Addr) (n : Nat) (gs : List (List Int)) : Prop :=
  gs.length = n ∧ ∀ (k : Nat) (hk : k < gs.length), ∃ ad A' c', A = some ad ∧ w.cell? (ad.add k) = some (.slice A' gs[k].length c') ∧ (ad.add k).block < B ∧ ReadI w B A' gs[k].length gs[k] ∧ gs[k].length ≤ c' ∧ c' ≤ maxLen
theorem ReadII.below {w w' : World} {B n : Nat} {A : Option Addr} {gs : List (List Int)} (h : ReadII w B A n gs) (hb : Below B w w') : ReadII w' B A n gs :=
  ⟨h.1, fun k hk => by
    obtain ⟨ad, A', c', h1, h2, h3, h4, h5⟩ := h.2 k hk
    exact ⟨ad, A', c', h1, (hb.cell h3).trans h2, h3, Reads.below h4 hb, h5⟩⟩
theorem ReadII.more {w : World} {B B' n : Nat} {A : Option Addr} {gs : List (List Int)} (h : ReadII w B A n gs) (hb : B ≤ B') : ReadII w B' A n gs :=
  ⟨h.1, fun k hk => by
    obtain ⟨ad, A', c', h1, h2, h3, h4, h5⟩ := h.2 k hk
    exact ⟨ad, A', c', h1, h2, Nat.lt_of_lt_of_le h3 hb, Reads.more h4 hb, h5⟩⟩
/-- Read later on, as all that lies there. -/
theorem ReadII.later {w w' : World} {n : Nat} {A : Option Addr} {gs : List (List Int)} (h : ReadII w w.heap.size A n gs) (hb : Below w.heap.size w w') : ReadII w' w'.heap.size A n gs := (h.below hb).more hb.size
theorem ReadI.later {w w' : World} {n : Nat} {A : Option Addr} {vs : List Int} (h : ReadI w w.heap.size A n vs) (hb : Below w.heap.size w w') : ReadI w' w'.heap.size A n vs := (Reads.below h hb).more hb.size
theorem readI_two {w : World} {B n a b : Nat} {A : Option Addr} {vs : List Int} (h : ReadI w B A n vs) (ha : a < vs.length) (hb : b < vs.length) : ∃ ad, A = some ad ∧ ad.block < B ∧ w.cell? (ad.add a) = some (.int .i64 vs[a]) ∧ w.cell? (ad.add b) = some (.int .i64 vs[b]) := by
  obtain ⟨ad, rfl, h1, h2⟩ := h.at_ ha
  obtain ⟨ad', e, _, h3⟩ := h.at_ hb
  injection e with e
  subst e
  exact ⟨ad, rfl, h1, h2, h3⟩
def valAt (vs : List Int) (i : Int) : Int := vs.getD i.toNat 0
theorem valAt_get {vs : List Int} {a : Nat} (h : a < vs.length) : valAt vs (a : Int) = vs[a] := by
  unfold valAt
  rw [Int.toNat_natCast, List.getD_eq_getElem?_getD, List.getElem?_eq_getElem h]; rfl
/-- Whether values cut a road. -/
def cutB (vs : List Int) (x : Rd) : Bool := !(valAt vs x.1 == valAt vs x.2.1)
/-- How many lists cut a road. -/
def bundN (l : List (List Int)) (x : Rd) : Nat := (l.filter fun vs => cutB vs x).length
theorem bundN_le (l : List (List Int)) (x : Rd) : bundN l x ≤ l.length := List.length_filter_le _ _
theorem bundN_step (l : List (List Int)) (x : Rd) {j : Nat} (hj : j < l.length) : bundN (l.take (j + 1)) x = bundN (l.take j) x + if cutB l[j] x = true then 1 else 0 := by
  unfold bundN
  rw [List.take_succ_eq_append_getElem hj, List.filter_append, List.length_append]
  by_cases hc : cutB l[j] x = true
  · rw [List.filter_cons_of_pos (p := fun vs => cutB vs x) hc, if_pos hc]; rfl
  · rw [List.filter_cons_of_neg (p := fun vs => cutB vs x) hc, if_neg hc]; rfl
/-- The error of a map with lists of values. -/
def chkN (n : Nat) (l : List (List Int)) : Int := if n = 0 then 1 else if 256 < l.length then 12 else if l.any (fun vs => !(vs.length == n)) = true then 2 else 0
theorem chkN_zero {n : Nat} {l : List (List Int)} (h : chkN n l = 0) : n ≠ 0 ∧ l.length ≤ 256 ∧ ∀ vs ∈ l, vs.length = n := by
  unfold chkN at h
  split at h
  · omega
  split at h
  · omega
  split at h
  · omega
  rename_i h1 h2 h3
  refine ⟨h1, by omega, fun vs hv => ?_⟩
  have h4 : l.any (fun vs => !(vs.length == n)) = false := by simpa using h3
  have := List.any_eq_false.1 h4 vs hv
  simpa using this
theorem chkN_ok {n : Nat} {l : List (List Int)} (h1 : n ≠ 0) (h2 : l.length ≤ 256) (h3 : ∀ vs ∈ l, vs.length = n) : chkN n l = 0 := by
  unfold chkN
  rw [if_neg h1, if_neg (by omega), if_neg]
  intro h
  obtain ⟨vs, hv, h⟩ := List.any_eq_true.1 h
  rw [h3 vs hv] at h
  simp at h
def rdAt (roads : List Rd) (i : Nat) : Rd := roads.getD i (0, 0, 0)
theorem rdAt_get {roads : List Rd} {i : Nat} (h : i < roads.length) : rdAt roads i = roads[i] := by
  unfold rdAt; rw [List.getD_eq_getElem?_getD, List.getElem?_eq_getElem h]; rfl
/-- The roads that are cut. -/
def cutsL (roads : List Rd) (vs : List Int) : List Nat := (List.range roads.length).filter fun i => cutB vs (rdAt roads i)
def bunL (roads : List Rd) (l : List (List Int)) : List Int := roads.map fun x => (bundN l x : Int)
/-- The roads that are open, by the numbers of their ends. -/
def openE (roads : List Rd) (p : Rd → Bool) : List (Nat × Nat) := (roads.filter p).map fun x => (x.1.toNat, x.2.1.toNat)
def lbI (n : Nat) (es : List (Nat × Nat)) : List Int := (List.range n).map fun a => (lbF es n a : Int)
theorem openE_len (roads : List Rd) (p : Rd → Bool) : (openE roads p).length ≤ roads.length := by unfold openE; rw [List.length_map]; exact List.length_filter_le _ _
theorem openE_in {n : Nat} {roads : List Rd} (hok : ∀ x ∈ roads, Okr n x) (p : Rd → Bool) : ∀ e ∈ openE roads p, e.1 < n ∧ e.2 < n := by
  intro e he
  obtain ⟨x, hx, rfl⟩ := List.mem_map.1 he
  obtain ⟨a0, a1, b0, b1, _, _, _⟩ := hok x (List.mem_filter.1 hx).1
  exact ⟨by show x.1.toNat < n; omega, by show x.2.1.toNat < n; omega⟩
theorem openE_step (roads : List Rd) (p : Rd → Bool) {j : Nat} (hj : j < roads.length) : openE (roads.take (j + 1)) p = openE (roads.take j) p ++ if p roads[j] = true then [(roads[j].1.toNat, roads[j].2.1.toNat)] else [] := by
  unfold openE
  rw [List.take_succ_eq_append_getElem hj, List.filter_append, List.map_append]
  by_cases hc : p roads[j] = true
  · rw [List.filter_cons_of_pos hc, if_pos hc]; rfl
  · rw [List.filter_cons_of_neg hc, if_neg hc]; rfl
end Go.Proofs.YtgimhjkijpcgjaaDoor
namespace Go.Proofs.YtgimhjkijpcgjaaDoor
open Go.RowKit Go.Lib

/-- The row of distances as it lies in memory. -/
def rowA (N : Nat) (r : Nat → Int) : List Value := (List.range N).map fun x => .int .i64 (r x)
theorem rowA_len (N : Nat) (r : Nat → Int) : (rowA N r).length = N := by simp [rowA]
theorem rowA_get {N : Nat} (r : Nat → Int) {x : Nat} (h : x < N) : (rowA N r).toArray[x]? = some (.int .i64 (r x)) := by simp [rowA, h]
theorem rowA_set {N : Nat} (r : Nat → Int) {x : Nat} (hx : x < N) (d : Int) : (rowA N r).toArray.setIfInBounds x (.int .i64 d) = (rowA N (setF r x d)).toArray := by
  rw [List.setIfInBounds_toArray]
  congr 1
  apply List.ext_getElem?
  intro i
  rw [List.getElem?_set]
  by_cases e : x = i
  · subst e; simp [rowA, setF, hx]
  · rw [if_neg e]
    simp only [rowA, List.getElem?_map]
    by_cases hi : i < N
    · rw [List.getElem?_range hi]; simp [setF, Ne.symm e]
    · simp [hi]
def nats (l : List Nat) : List Value := l.map fun (x : Nat) => Value.int .i64 (x : Int)
/-- The memory of from in its loop. -/
structure FromM (w wr : World) (b q N : Nat) (r : Nat → Int) (op : List Nat) (v : Value) : Prop where
  box : Blk wr b 113 #[.slice (some ⟨q, 0, none⟩) N N]
  row : Blk wr q 2 (rowA N r).toArray
  opn : wr.ownsRow w.heap.size 3 1 v op.length (nats op)
  lt : ∀ x ∈ op, x < N
  below : Below w.heap.size w wr
  hb : w.heap.size ≤ b
  hq : w.heap.size ≤ q
theorem FromM.alloc {w wr : World} {b q N : Nat} {r : Nat → Int} {op : List Nat} {v : Value} (h : FromM w wr b q N r op v) (o : Obj) : FromM w (wr.alloc o) b q N r op v :=
  ⟨h.box.alloc o, h.row.alloc o, h.opn.alloc o, h.lt, h.below.alloc h.below.size o, h.hb, h.hq⟩
theorem FromM.drew {w wr : World} {b q N : Nat} {r : Nat → Int} {op : List Nat} {v : Value} (h : FromM w wr b q N r op v) : FromM w wr.drew b q N r op v :=
  ⟨h.box, h.row, h.opn, h.lt, h.below.drew, h.hb, h.hq⟩
/-- A cell of a block that none of these is. -/
theorem FromM.far {w wr : World} {b q N : Nat} {r : Nat → Int} {op : List Nat} {v : Value} (h : FromM w wr b q N r op v) {p : Nat} (hp : w.heap.size ≤ p) (h1 : b ≠ p) (h2 : q ≠ p) (h3 : v.ownBlock ≠ some p) (j : Nat) (u : Value) : FromM w (wr.setCell ⟨p, j, none⟩ u) b q N r op v :=
  ⟨h.box.far h1 u, h.row.far h2 u, ownsRow_setCell_other h.opn h3 u, h.lt, h.below.setCell (p := ⟨p, j, none⟩) hp u, h.hb, h.hq⟩
theorem FromM.dist {w wr : World} {b q N : Nat} {r : Nat → Int} {op : List Nat} {v : Value} (h : FromM w wr b q N r op v) {x : Nat} (hx : x < N) (d : Int) : FromM w (wr.setCell ⟨q, x, none⟩ (.int .i64 d)) b q N (setF r x d) op v :=
  ⟨h.box.far (p := ⟨q, x, none⟩) (Blk.ne_ h.box h.row (by decide)) _, by rw [← rowA_set r hx]; exact h.row.set_ x _, ownsRow_setCell_other h.opn (own_blk_ne h.opn h.row (by decide)) _, h.lt, h.below.setCell (p := ⟨q, x, none⟩) h.hq _, h.hb, h.hq⟩
theorem FromM.push {w wr w' : World} {b q N : Nat} {r : Nat → Int} {op : List Nat} {v v' : Value} (h : FromM w wr b q N r op v) {x : Nat} (hx : x < N) (hg : wr.grownBy w' v.ownBlock) (ho : w'.ownsRow w.heap.size 3 1 v' (op.length + 1) (nats op ++ [.int .i64 (x : Int)])) : FromM w w' b q N r (op ++ [x]) v' :=
  ⟨h.box.grown hg (fun e => own_blk_ne h.opn h.box (by decide) e.symm), h.row.grown hg (fun e => own_blk_ne h.opn h.row (by decide) e.symm), by simpa [nats] using ho, fun y hy => by
    rcases List.mem_append.1 hy with hy | hy
    · exact h.lt y hy
    · obtain rfl := List.mem_singleton.1 hy; exact hx, h.below.grown hg h.below.size (fun g hg => (h.opn.lt g hg).1), h.hb, h.hq⟩
theorem FromM.cell {w wr : World} {b q N : Nat} {r : Nat → Int} {op : List Nat} {v : Value} (h : FromM w wr b q N r op v) {x : Nat} (hx : x < N) : wr.cell? ⟨q, x, none⟩ = some (.int .i64 (r x)) := (Blk.cell h.row x).trans (rowA_get r hx)
theorem FromM.congr {w wr : World} {b q N : Nat} {r r' : Nat → Int} {op : List Nat} {v : Value} (h : FromM w wr b q N r op v) (e : ∀ x, x < N → r x = r' x) : FromM w wr b q N r' op v := by
  have : rowA N r = rowA N r' := by unfold rowA; exact List.map_congr_left fun x hx => by rw [e x (List.mem_range.1 hx)]
  exact ⟨h.box, this ▸ h.row, h.opn, h.lt, h.below, h.hb, h.hq⟩
end Go.Proofs.YtgimhjkijpcgjaaDoor
namespace Go.Proofs.YtgimhjkijpcgjaaDoor
open Go.RowKit Go.Lib

theorem nodup_len : ∀ (N : Nat) (l : List Nat), l.Nodup → (∀ x ∈ l, x < N) → l.length ≤ N
  | 0, l, _, h => by
    cases l with
    | nil => simp
    | cons x l => exact absurd (h x (by simp)) (by omega)
  | N + 1, l, hd, h => by
    have h1 := nodup_len N (l.erase N) (hd.erase N) (fun x hx => by
      have hx1 := List.mem_of_mem_erase hx
      have hx2 : x ≠ N := fun e => by subst e; exact (List.Nodup.not_mem_erase hd) hx
      have := h x hx1; omega)
    have h2 := @List.le_length_erase Nat _ _ N l
    omega
structure LoopO (E : Gr) (a N : Nat) (r : Nat → Int) (cls op : List Nat) : Prop where
  st : OpenSt E a r (· ∈ cls) op
  nd : op.Nodup
  cd : cls.Nodup
  clt : ∀ x ∈ cls, x < N
structure LoopC (E : Gr) (a at_ N : Nat) (r : Nat → Int) (cls op : List Nat) (seen : List (Nat × Int)) : Prop where
  st : CloseSt E a at_ r (· ∈ cls) op seen
  nd : op.Nodup
  cd : cls.Nodup
  clt : ∀ x ∈ cls, x < N
theorem LoopO.start {E : Gr} {a N : Nat} {r : Nat → Int} (h0 : r a = 0) (h1 : ∀ v, v ≠ a → r v = -1) : LoopO E a N r [] [a] :=
  ⟨by have := OpenSt.start (E := E) h0 h1; simpa using this, by simp, by simp, fun x hx => by cases hx⟩
theorem LoopO.close {E : Gr} {a N at_ : Nat} {r : Nat → Int} {cls op : List Nat} (h : LoopO E a N r cls op) (hat : at_ ∈ op) (hmin : ∀ v ∈ op, r at_ ≤ r v) : LoopC E a at_ N r cls (op.filter fun x => !(x == at_)) [] :=
  ⟨h.st.close hat hmin, h.nd.filter _, h.cd, h.clt⟩
theorem LoopC.take {E : Gr} {C : Int} (hl : Lens E C) {a at_ N : Nat} {r : Nat → Int} {cls op : List Nat} {seen : List (Nat × Int)} (h : LoopC E a at_ N r cls op seen) {x : Nat} {l : Int} (he : E at_ x l) (hx : x ≠ at_) (hd : r x < 0) : LoopC E a at_ N (setF r x (r at_ + l)) cls (op ++ [x]) (seen ++ [(x, l)]) := by
  refine ⟨h.st.take hl he hx (.inl hd) (fun v => by simp), ?_, h.cd, h.clt⟩
  rw [List.nodup_append]
  refine ⟨h.nd, by simp, fun y hy z hz => ?_⟩
  obtain rfl := List.mem_singleton.1 hz
  intro e; subst e
  have := (h.st.known y).2 (.inr (.inr hy)); omega
theorem LoopC.less {E : Gr} {C : Int} (hl : Lens E C) {a at_ N : Nat} {r : Nat → Int} {cls op : List Nat} {seen : List (Nat × Int)} (h : LoopC E a at_ N r cls op seen) {x : Nat} {l : Int} (he : E at_ x l) (hx : x ≠ at_) (h0 : 0 ≤ r x) (hd : r at_ + l < r x) : LoopC E a at_ N (setF r x (r at_ + l)) cls op (seen ++ [(x, l)]) := by
  refine ⟨h.st.take hl he hx (.inr ⟨h0, hd⟩) (fun v => ⟨fun hv => .inl hv, fun hv => ?_⟩), h.nd, h.cd, h.clt⟩
  rcases hv with hv | rfl
  · exact hv
  · rcases (h.st.known v).1 h0 with hc | hc | hc
    · have h1 := h.st.cle v hc
      have h2 := (hl at_ v l he).1
      omega
    · exact absurd hc hx
    · exact hc
theorem LoopC.skip {E : Gr} {a at_ N : Nat} {r : Nat → Int} {cls op : List Nat} {seen : List (Nat × Int)} (h : LoopC E a at_ N r cls op seen) {x : Nat} {l : Int} (h0 : 0 ≤ r x) (hd : r x ≤ r at_ + l) : LoopC E a at_ N r cls op (seen ++ [(x, l)]) := ⟨h.st.skip h0 hd, h.nd, h.cd, h.clt⟩
theorem LoopC.closed {E : Gr} {a at_ N : Nat} {r : Nat → Int} {cls op : List Nat} {seen : List (Nat × Int)} (h : LoopC E a at_ N r cls op seen) (hs : ∀ v l, E at_ v l → (v, l) ∈ seen) (hat : at_ < N) : LoopO E a N r (at_ :: cls) op ∧ (at_ :: cls).length = cls.length + 1 := by
  refine ⟨⟨?_, h.nd, List.nodup_cons.2 ⟨h.st.notcl, h.cd⟩, fun x hx => ?_⟩, rfl⟩
  · have := h.st.closed hs
    have e : (fun v => v ∈ at_ :: cls) = fun v => v ∈ cls ∨ v = at_ := by funext v; rw [List.mem_cons]; exact propext Or.comm
    rw [e]; exact this
  · rcases List.mem_cons.1 hx with rfl | hx
    · exact hat
    · exact h.clt x hx
theorem LoopC.known {E : Gr} {a at_ N : Nat} {r : Nat → Int} {cls op : List Nat} {seen : List (Nat × Int)} (h : LoopC E a at_ N r cls op seen) : 0 ≤ r at_ := (h.st.known at_).2 (.inr (.inl rfl))
/-- Not all points are closed while one is open. -/
theorem LoopO.left {E : Gr} {a N at_ : Nat} {r : Nat → Int} {cls op : List Nat} (h : LoopO E a N r cls op) (hat : at_ ∈ op) (hlt : at_ < N) : cls.length < N := by
  have := nodup_len N (at_ :: cls) (List.nodup_cons.2 ⟨fun hc => h.st.apart at_ hc hat, h.cd⟩) (fun x hx => by
    rcases List.mem_cons.1 hx with rfl | hx
    · exact hlt
    · exact h.clt x hx)
  rw [List.length_cons] at this; omega
/-! Memory at the start. -/
def fillF (j : Nat) : Nat → Int := fun x => if x < j then -1 else 0
theorem madeCells_zero (n : Nat) : madeCells #[.int .i64 0] n = (rowA n (fillF 0)).toArray := by
  apply Array.ext
  · simp [madeCells, rowA]
  · intro i h1 h2
    simp [madeCells, rowA, fillF, Nat.mod_one]
theorem fillF_step (j : Nat) : setF (fillF j) j (-1) = fillF (j + 1) := by
  funext v
  unfold setF fillF
  by_cases h : v = j
  · subst h; rw [if_pos rfl, if_pos (by omega)]
  · rw [if_neg h]
    by_cases h1 : v < j
    · rw [if_pos h1, if_pos (by omega)]
    · rw [if_neg h1, if_neg (by omega)]
theorem FromM.start (w : World) (N : Nat) : FromM w ((w.alloc (.cells (madeCells #[.int .i64 0] N) 2)).alloc (.cells #[.slice (some ⟨w.heap.size, 0, none⟩) N N] 113)) (w.heap.size + 1) w.heap.size N (fillF 0) [] (.slice none 0 0) := by
  have k1 : Blk (w.alloc (.cells (madeCells #[.int .i64 0] N) 2)) w.heap.size 2 (rowA N (fillF 0)).toArray := by rw [madeCells_zero]; exact Blk.new w _ _
  have k2 := Blk.new (w.alloc (.cells (madeCells #[.int .i64 0] N) 2)) 113 #[.slice (some ⟨w.heap.size, 0, none⟩) N N]
  rw [World.size_alloc] at k2
  exact ⟨k2, k1.alloc _, World.ownsRow_nil _ _ _ _, fun x hx => (by cases hx), ((Below.refl _ w).alloc (Nat.le_refl _) _).alloc (by simp) _, by omega, Nat.le_refl _⟩
theorem FromM.first {w wr : World} {b q N : Nat} {r : Nat → Int} {v : Value} (h : FromM w wr b q N r [] v) {a : Nat} (ha : a < N) : FromM w (wr.alloc (.cells #[.int .i64 (a : Int)] 3)) b q N r [a] (.slice (some ⟨wr.heap.size, 0, none⟩) 1 1) :=
  ⟨h.box.alloc _, h.row.alloc _, ⟨rfl, .inr ⟨wr.heap.size, 1, #[.int .i64 (a : Int)], rfl, h.below.size, heap_alloc_new wr _, Nat.le_refl _, by unfold maxLen; omega, rfl, rfl⟩⟩, fun x hx => by rw [List.mem_singleton.1 hx]; exact ha, h.below.alloc h.below.size _, h.hb, h.hq⟩
theorem own_pos2 {w : World} {base : Nat} {e : TypeId} {v : Value} {n : Nat} {l : List (Nat × Int)} (h : w.ownsRow base e 2 v n (l.flatMap endV)) (hl : l.length = n) (h0 : 0 < n) :
    ∃ q c, v = .slice (some ⟨q, 0, none⟩) n c ∧ n ≤ c ∧ c ≤ maxLen ∧ base ≤ q ∧ q < w.heap.size ∧ ∀ k (hk : k < l.length), w.cell? ⟨q, k * 2, none⟩ = some (.int .i64 l[k].1) ∧ w.cell? ⟨q, k * 2 + 1, none⟩ = some (.int .i64 l[k].2) := by
  obtain ⟨A, c, rfl, h1, h2⟩ := ownsRow_form h
  have hr := Reads.of_own h
  rcases h.2 with ⟨h', hn⟩ | ⟨q, cap, cur, h', hb, hg, _⟩
  · omega
  · simp only [Value.slice.injEq, true_and] at h'
    obtain ⟨rfl, rfl⟩ := h'
    obtain ⟨ad, had, _, hc⟩ := hr.2 h0
    injection had with had
    subst had
    have hlen : ∀ x : Nat × Int, (endV x).length = 2 := fun _ => rfl
    refine ⟨q, c, rfl, h1, h2, hb, (Array.getElem?_eq_some_iff.1 hg).1, fun k hk => ?_⟩
    have g0 := flatMap_get endV 2 hlen l (k * 2) (by omega)
    have g1 := flatMap_get endV 2 hlen l (k * 2 + 1) (by omega)
    rw [show k * 2 / 2 = k by omega, show k * 2 % 2 = 0 by omega, getElem!_pos l k hk] at g0
    rw [show (k * 2 + 1) / 2 = k by omega, show (k * 2 + 1) % 2 = 1 by omega, getElem!_pos l k hk] at g1
    have c0 := hc _ _ g0
    have c1 := hc _ _ g1
    rw [add_at] at c0 c1
    exact ⟨c0, c1⟩
/-- Where the roads at each point lie. -/
theorem near_rows {w : World} {g : Nat} {M : Pts} (hM : MapAt w g M) (hG : GoodM M) (h0 : 0 < M.names.length) :
    ∃ qE cE, w.cell? ⟨g, 3, none⟩ = some (.slice (some ⟨qE, 0, none⟩) M.names.length cE) ∧ qE < w.heap.size ∧ ∀ k, k < M.names.length → ∃ (u : Value) (row : List (Nat × Int)), w.cell? ⟨qE, k, none⟩ = some u ∧ (∃ base, w.ownsRow base 106 2 u row.length (row.flatMap endV)) ∧
      M.near.getD k [] = row ∧ (∀ v l, edgeOf M k v l ↔ (v, l) ∈ row) ∧ row.length ≤ 100000 := by
  obtain ⟨base, vN, vR, vE, vM, h1, _, _, _, vs, h5, h6, h7⟩ := hM
  have hc := h1.cell 3
  simp only [List.getElem?_toArray, List.getElem?_cons_succ, List.getElem?_cons_zero] at hc
  rw [hG.len] at h5
  obtain ⟨qE, cE, hvE, hqE, hqlt⟩ := h5.form (by omega)
  subst hvE
  refine ⟨qE, cE, hc, hqlt, fun k hk => ?_⟩
  have hk' : k < M.near.length := by rw [hG.len]; exact hk
  obtain ⟨u, hu, ho⟩ := h7 k hk'
  refine ⟨u, M.near[k], ?_, ⟨base, ho⟩, ?_, fun v l => ⟨fun ⟨_, h⟩ => h, fun h => ⟨hk', h⟩⟩, ?_⟩
  · rw [h5.cellAt k (by omega)]; exact hu
  · rw [List.getD_eq_getElem?_getD, List.getElem?_eq_getElem hk']; rfl
  · have hl := nodup_len M.names.length (M.near[k].map Prod.fst) (List.Pairwise.imp (fun {a b} (h : a < b) => Nat.ne_of_lt h) (hG.order k hk')) (fun x hx => by
      obtain ⟨e, he, rfl⟩ := List.mem_map.1 hx
      exact (hG.ends k e.1 e.2 ⟨hk', he⟩).1)
    have := hG.few
    rw [List.length_map] at hl; omega
theorem MapAt.lt {w : World} {g : Nat} {M : Pts} (h : MapAt w g M) : g < w.heap.size := by obtain ⟨base, vN, vR, vE, vM, h1, _⟩ := h; exact h1.lt
end Go.Proofs.YtgimhjkijpcgjaaDoor
namespace Go.Proofs.YtgimhjkijpcgjaaDoor
open Go.RowKit Go.Lib

theorem from2_any (b : Nat) (at_ x : Int) (w : World) (hb : Blk w b 3 #[.int .i64 at_]) : Calls Tryd.prog 93 #[.int .i64 x, .pointer (some ⟨b, 0, none⟩)] w fun e w' => e = .returned (.bool (x == at_)) ∧ w = w' := by
  have hc := hb.cell 0
  simp only [List.getElem?_toArray, List.getElem?_cons_zero] at hc
  clear hb
  go_enter Tryd.func93, Tryd.ntmps93
  go_wp2
  go_ret
  exact ⟨rfl, rfl⟩
theorem from1_any (b q n c x y : Nat) (dx dy : Int) (w : World) (hb : Blk w b 113 #[.slice (some ⟨q, 0, none⟩) n c]) (hx : x < n) (hy : y < n) (hcx : w.cell? ⟨q, x, none⟩ = some (.int .i64 dx)) (hcy : w.cell? ⟨q, y, none⟩ = some (.int .i64 dy)) :
    Calls Tryd.prog 89 #[.int .i64 x, .int .i64 y, .pointer (some ⟨b, 0, none⟩)] w fun e w' => e = .returned (.int .i64 (Lib.compareInt dx dy)) ∧ ∃ k, w' = w.drewN k := by
  have hc := hb.cell 0
  simp only [List.getElem?_toArray, List.getElem?_cons_zero] at hc
  have hxI : (x : Int) < (n : Int) := by omega
  have hyI : (y : Int) < (n : Int) := by omega
  have hx0 : (0 : Int) ≤ (x : Int) := by omega
  have hy0 : (0 : Int) ≤ (y : Int) := by omega
  have hcmp := fun W => Tryd.cmp_Compare_int_f90 dx dy W
  have HCMP := Lib.hid hcmp
  clear hb hcmp
  go_enter Tryd.func89, Tryd.ntmps89
  go_wp2_with fail
  go_quiet ((go_at_call 90; refine Calls.quiet_of_same (HCMP.out _)))
  go_wp2
  go_ret
  exact ⟨rfl, _, rfl⟩
/-! The nearest open point. -/
def encP {N : Nat} (x : Fin N) : Value := .int .i64 (x.val : Int)
theorem sortWorld_block {α : Type} [Inhabited α] (enc : α → Value) (w : World) (blk off m : Nat) (dk : Array α) (os : Array Obj) {b : Nat} (hb : b < w.heap.size) (hne : b ≠ blk) : (sortWorld enc w blk off m dk os).heap[b]? = w.heap[b]? := by
  unfold sortWorld
  rw [Go.Sort.heap_grow_old _ _ (by simpa using hb)]
  have : blk ≠ b := fun e => hne e.symm
  simp [Go.Sort.putRow, Go.Sort.mapBlock, Go.Sort.ahead, Array.getElem?_modify, this]
theorem nearer_reads {N b q blk off c size : Nat} [Inhabited (Fin N)] (r : Nat → Int) (w : World) (hb : Blk w b 113 #[.slice (some ⟨q, 0, none⟩) N c]) (cs : Array Value) (hq : Blk w q 2 cs) (hr : ∀ x, x < N → cs[x]? = some (.int .i64 (r x))) (hbb : b ≠ blk) (hqb : q ≠ blk) :
    CmpReads Tryd.prog 89 #[.pointer (some ⟨b, 0, none⟩)] (encP (N := N)) (fun x y => Lib.compareInt (r x.val) (r y.val)) blk off size w := by
  intro m os dk hs x y
  have hB := (sortWorld_block encP w blk off m dk os hb.lt hbb).trans hb
  have hQ := (sortWorld_block encP w blk off m dk os hq.lt hqb).trans hq
  exact from1_any b q N c x.val y.val (r x.val) (r y.val) _ hB x.isLt y.isLt ((Blk.cell hQ x.val).trans (hr _ x.isLt)) ((Blk.cell hQ y.val).trans (hr _ y.isLt))
theorem minOpen_any {N b q o c c' : Nat} [Inhabited (Fin N)] (r : Nat → Int) (w : World) (hb : Blk w b 113 #[.slice (some ⟨q, 0, none⟩) N c]) (cs : Array Value) (hq : Blk w q 2 cs) (hr : ∀ x, x < N → cs[x]? = some (.int .i64 (r x))) (hbb : b ≠ o) (hqb : q ≠ o)
    (d : Array (Fin N)) (hH : Go.Sort.Holds encP w o 0 d) (ho : o < w.heap.size) (hd : d.size ≤ 100000) (h0 : 0 < d.size) :
    Calls Tryd.prog 91 #[.slice (some ⟨o, 0, none⟩) d.size c', .func (.func 89) #[] #[.pointer (some ⟨b, 0, none⟩)]] w fun e w' =>
      e = .returned (encP (Lib.pickBy (fun x m => decide (Lib.compareInt (r x.val) (r m.val) < 0)) d (d.size - 1))) ∧ SW encP w o 0 d w' :=
  Any.slices_MinFunc Tryd.minFn encP (fun _ => rfl) (fun x y => Lib.compareInt (r x.val) (r y.val)) 89 #[.pointer (some ⟨b, 0, none⟩)] o 0 c' d w
    (enters_of Tryd.func89 (by kernel_rfl) rfl) (CmpReads.lays (nearer_reads r w hb cs hq hr hbb hqb)) hH ho (by omega) h0
theorem del_gives {N b at_ : Nat} (x : Fin N) (W : World) (hb : Blk W b 3 #[.int .i64 at_]) : FnGives Tryd.prog 93 #[.pointer (some ⟨b, 0, none⟩)] #[encP x] (.bool (decide (x.val = at_))) W := by
  have h := from2_any b at_ x.val W hb
  have e : (((x.val : Int)) == (at_ : Int)) = decide (x.val = at_) := by
    by_cases hx : x.val = at_
    · rw [hx]; simp
    · rw [decide_eq_false hx, beq_eq_false_iff_ne]; omega
  rw [e] at h
  refine h.mono ?_
  rintro e w' ⟨rfl, rfl⟩
  exact ⟨rfl, 0, rfl⟩
theorem delOpen_any {N b o c' at_ : Nat} [Inhabited (Fin N)] (hN : 0 < N) (w : World) (hb : Blk w b 3 #[.int .i64 at_]) (hbo : b ≠ o) (d : Array (Fin N)) (hH : Go.Sort.Holds encP w o 0 d) (hd : d.size ≤ 100000) (hc : d.size ≤ c') :
    Calls Tryd.prog 92 #[.slice (some ⟨o, 0, none⟩) d.size c', .func (.func 93) #[] #[.pointer (some ⟨b, 0, none⟩)]] w fun e w' =>
      e = .returned (.slice (some ⟨o, 0, none⟩) (d.toList.filter fun x => !decide (x.val = at_)).length c') ∧
      ∃ k, w' = Go.Sort.putRow encP (Go.Sort.ahead w k) o 0 ((d.toList.filter fun x => !decide (x.val = at_)) ++ List.replicate (d.size - (d.toList.filter fun x => !decide (x.val = at_)).length) (⟨0, hN⟩ : Fin N)).toArray :=
  Tryd.slices_DeleteFunc encP (fun _ => rfl) (fun x => decide (x.val = at_)) 93 #[.pointer (some ⟨b, 0, none⟩)] (enters_of Tryd.func93 (by kernel_rfl) rfl) ⟨0, hN⟩ Tryd.zeroValue3 o 0 c' d w
    (fun W x hW => del_gives x W (hb.below hW hb.lt)) (fun n os dk x _ => del_gives x _ ((sortWorld_block encP w o 0 n dk os hb.lt hbo).trans hb)) hH (by omega) hc
end Go.Proofs.YtgimhjkijpcgjaaDoor
namespace Go.Proofs.YtgimhjkijpcgjaaDoor
open Go.RowKit Go.Lib

/-! What the library's functions leave of a row of ours. -/
section
variable {α : Type} [Inhabited α]
theorem own_sortWorld (enc : α → Value) {W : World} {base o n c n' k : Nat} {e : TypeId} {xs : List Value} {ds : Array α} {os : Array Obj} (h : W.ownsRow base e 1 (.slice (some ⟨o, 0, none⟩) n c) n xs) (hds : ds.size = n) (hn : n' ≤ n) :
    (sortWorld enc W o 0 k ds os).ownsRow base e 1 (.slice (some ⟨o, 0, none⟩) n' c) n' ((ds.toList.take n').map enc) := by
  have hx := h.1
  rcases h.2 with ⟨h', _⟩ | ⟨g, cap, cur, h', hb, hg, r1, r2, r3, r4⟩
  · simp at h'
  simp only [Value.slice.injEq, Option.some.injEq, Addr.mk.injEq, and_true, true_and] at h'
  obtain ⟨rfl, rfl⟩ := h'
  have hlt : o < W.heap.size := (Array.getElem?_eq_some_iff.1 hg).1
  refine ⟨by simp; omega, .inr ⟨o, c, Go.Sort.putCells enc 0 ds cur, rfl, hb, ?_, by omega, r2, by simp [Go.Sort.putCells, r3], ?_⟩⟩
  · unfold sortWorld
    rw [Go.Sort.heap_grow_old _ _ (by simpa using hlt)]
    simp [Go.Sort.putRow, Go.Sort.mapBlock, Go.Sort.ahead, Array.getElem?_modify, hg, Go.Sort.onCells]
  · apply List.ext_getElem?
    intro i
    rw [List.getElem?_take, List.getElem?_map, List.getElem?_take]
    by_cases hi : i < n'
    · rw [if_pos (by omega), if_pos hi]
      have hic : i < cur.size := by omega
      simp [Go.Sort.putCells, hic, show i < ds.size by omega]
    · rw [if_neg (by omega), if_neg hi]; rfl
theorem below_sortWorld (enc : α → Value) {W : World} {base o k : Nat} {ds : Array α} {os : Array Obj} (ho : o < W.heap.size) (hb : base ≤ o) : Below base W (sortWorld enc W o 0 k ds os) where
  os := rfl
  tape := rfl
  output := rfl
  size := by unfold sortWorld; simp [Go.Sort.grow, Go.Sort.putRow, Go.Sort.mapBlock, Go.Sort.ahead]
  block b hb' := sortWorld_block enc W o 0 k ds os (by omega) (by omega)
end
theorem FromM.turn {w wr : World} {b q N o n c n' k : Nat} {r : Nat → Int} {op : List Nat} (h : FromM w wr b q N r op (.slice (some ⟨o, 0, none⟩) n c)) (hn : op.length = n) [Inhabited (Fin N)] {ds : Array (Fin N)} {os : Array Obj} (hds : ds.size = n) (hn' : n' ≤ n) :
    FromM w (sortWorld encP wr o 0 k ds os) b q N r ((ds.toList.take n').map Fin.val) (.slice (some ⟨o, 0, none⟩) n' c) := by
  have ho := h.opn.lt o rfl
  have hbo : b ≠ o := fun e => own_blk_ne h.opn h.box (by decide) (by simp [Value.ownBlock, e])
  have hqo : q ≠ o := fun e => own_blk_ne h.opn h.row (by decide) (by simp [Value.ownBlock, e])
  have hrow : wr.ownsRow w.heap.size 3 1 (.slice (some ⟨o, 0, none⟩) n c) n (nats op) := by have := h.opn; rwa [hn] at this
  refine ⟨(sortWorld_block _ _ _ _ _ _ _ h.box.lt hbo).trans h.box, (sortWorld_block _ _ _ _ _ _ _ h.row.lt hqo).trans h.row, ?_, fun x hx => ?_, h.below.trans (below_sortWorld _ ho.2 ho.1), h.hb, h.hq⟩
  · have := own_sortWorld (encP (N := N)) (k := k) (ds := ds) (os := os) hrow hds hn'
    rw [List.length_map, List.length_take, Array.length_toList, hds, Nat.min_eq_left hn']
    have e : (nats ((ds.toList.take n').map Fin.val)) = (ds.toList.take n').map encP := by unfold nats; rw [List.map_map]; rfl
    rw [e]; exact this
  · obtain ⟨y, _, rfl⟩ := List.mem_map.1 hx; exact y.isLt
/-- The open points as the library's contracts want them. -/
theorem FromM.holds {w wr : World} {b q N o n c : Nat} {r : Nat → Int} {op : List Nat} (h : FromM w wr b q N r op (.slice (some ⟨o, 0, none⟩) n c)) (hn : op.length = n) [Inhabited (Fin N)] {ds : Array (Fin N)} (hds : ds.toList.map Fin.val = op) :
    Go.Sort.Holds encP wr o 0 ds := by
  have hrow : wr.ownsRow w.heap.size 3 1 (.slice (some ⟨o, 0, none⟩) n c) n (nats op) := by have := h.opn; rwa [hn] at this
  intro j hj
  rw [Nat.zero_add]
  have hjl : j < ds.toList.length := by simpa using hj
  have hjn : j < n := by rw [← hn, ← hds]; simpa using hj
  refine ⟨?_, ?_⟩
  · rw [hrow.cellAt j (by omega), ← hds]
    unfold nats
    rw [List.map_map, List.getElem?_map, List.getElem?_eq_getElem hjl, getElem!_pos ds j hj]
    rfl
  · rcases hrow.2 with ⟨h', _⟩ | ⟨g, cap, cur, h', _, hg, _⟩
    · simp at h'
    simp only [Value.slice.injEq, Option.some.injEq, Addr.mk.injEq, and_true, true_and] at h'
    obtain ⟨rfl, rfl⟩ := h'
    simp [World.frozen?, hg]
theorem fins {N : Nat} {op : List Nat} (h : ∀ x ∈ op, x < N) : ∃ ds : Array (Fin N), ds.toList.map Fin.val = op ∧ ds.size = op.length :=
  ⟨(op.pmap Fin.mk h).toArray, by simp [List.map_pmap], by simp⟩
theorem pickBy_min {N : Nat} [Inhabited (Fin N)] (r : Nat → Int) (d : Array (Fin N)) : ∀ k, k < d.size → (Lib.pickBy (fun x m => decide (Lib.compareInt (r x.val) (r m.val) < 0)) d k) ∈ d.toList ∧ ∀ j, j ≤ k → r (Lib.pickBy (fun x m => decide (Lib.compareInt (r x.val) (r m.val) < 0)) d k).val ≤ r (d[j]!).val := by
  have hc : ∀ x y : Int, Lib.compareInt x y < 0 ↔ x < y := by intro x y; unfold Lib.compareInt; split <;> (try split) <;> omega
  intro k
  induction k with
  | zero =>
    intro hk
    refine ⟨?_, fun j hj => ?_⟩
    · unfold Lib.pickBy; rw [getElem!_pos d 0 hk]; simp
    · obtain rfl : j = 0 := by omega
      unfold Lib.pickBy; omega
  | succ k ih =>
    intro hk
    obtain ⟨i1, i2⟩ := ih (by omega)
    unfold Lib.pickBy
    by_cases h : r (d[k + 1]!).val < r (Lib.pickBy (fun x m => decide (Lib.compareInt (r x.val) (r m.val) < 0)) d k).val
    · rw [if_pos (decide_eq_true ((hc _ _).2 h))]
      refine ⟨by rw [getElem!_pos d (k + 1) hk]; simp, fun j hj => ?_⟩
      rcases Nat.lt_or_ge k j with h1 | h1
      · obtain rfl : j = k + 1 := by omega
        omega
      · have := i2 j h1; omega
    · rw [if_neg (by rw [decide_eq_true_iff, hc]; exact h)]
      refine ⟨i1, fun j hj => ?_⟩
      rcases Nat.lt_or_ge k j with h1 | h1
      · obtain rfl : j = k + 1 := by omega
        omega
      · exact i2 j h1
end Go.Proofs.YtgimhjkijpcgjaaDoor
