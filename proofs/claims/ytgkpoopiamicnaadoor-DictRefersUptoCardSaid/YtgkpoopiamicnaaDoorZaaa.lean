/-
  Words for memory, of no program: a slice that reads as a list; a block that is known whole; an append onto a row of the call's own. Conditions: none. (The lemmas that the kit offers for copying, and some of our own behind them.)
-/
import Derived.WalkKit
import Derived.WalkSpells
import Derived.Lib.Hide
import Derived.Below
import Derived.Laws.OwnMore
import Derived.Deep.AppendLies
import Derived.Deep.Draws
import Derived.Laws.Rows
import Derived.Maps.AppendAt
import Derived.RegionTactic
import Derived.OwnWalk
import Derived.ProofKit
import Derived.OpenShut
import Derived.SizedLaws
import Derived.SliceStrings
import Derived.WideKeyArgs
import Derived.Deep.DeepHandedRow
import Derived.Shelf.Vars
import Derived.SevenTiedAt
import Derived.Lib.Strings
import Derived.Test.YtgkpoopiamicnaaDoorProg
namespace Go.Proofs.YtgkpoopiamicnaaDoor
open Go.RowKit

theorem block_of_add (a : Addr) (n : Nat) : (a.add n).block = a.block := by unfold Addr.add; split <;> rfl
theorem add_of_add (a : Addr) (i j : Nat) : (a.add i).add j = a.add (i + j) := by
  unfold Addr.add
  by_cases hi : i = 0 <;> by_cases hj : j = 0 <;> simp [hi, hj, Nat.add_assoc]

def Reads (w : World) (B size : Nat) (A : Option Addr) (n : Nat) (xs : List Value) : Prop :=
  xs.length = n * size ∧ (0 < n → ∃ ad, A = some ad ∧ ad.block < B ∧ ∀ j u, xs[j]? = some u → w.cell? (ad.add j) = some u)

section
variable {w w' : World} {B B' size n : Nat} {A : Option Addr} {xs : List Value}
theorem Reads.none_ : Reads w B size A 0 [] := ⟨by simp, fun h => absurd h (by omega)⟩
theorem Reads.at_ {k : Nat} (h : Reads w B 1 A n xs) (hk : k < n) : ∃ ad u, A = some ad ∧ ad.block < B ∧ xs[k]? = some u ∧ w.cell? (ad.add k) = some u := by
  obtain ⟨ad, e, hb, hc⟩ := h.2 (by omega)
  have hl : k < xs.length := by have := h.1; omega
  exact ⟨ad, xs[k], e, hb, List.getElem?_eq_getElem hl, hc k _ (List.getElem?_eq_getElem hl)⟩
theorem Reads.keep (h : Reads w B size A n xs) (hk : ∀ p : Addr, p.block < B → w'.cell? p = w.cell? p) : Reads w' B size A n xs :=
  ⟨h.1, fun hn => by
    obtain ⟨ad, e, hb, hc⟩ := h.2 hn
    exact ⟨ad, e, hb, fun j u hu => (hk _ (by rw [block_of_add]; exact hb)).trans (hc j u hu)⟩⟩
theorem Reads.more (h : Reads w B size A n xs) (hB : B ≤ B') : Reads w B' size A n xs :=
  ⟨h.1, fun hn => by
    obtain ⟨ad, e, hb, hc⟩ := h.2 hn
    exact ⟨ad, e, by omega, hc⟩⟩
theorem Reads.below (h : Reads w B size A n xs) (hb : Below B w w') : Reads w' B size A n xs := h.keep fun _ hp => hb.cell hp
theorem Reads.drew (h : Reads w B size A n xs) : Reads w.drew B size A n xs := h
theorem Reads.drewN (h : Reads w B size A n xs) (k : Nat) : Reads (w.drewN k) B size A n xs := h
theorem Reads.alloc (h : Reads w B size A n xs) (hB : B ≤ w.heap.size) (o : Obj) : Reads (w.alloc o) B size A n xs := h.keep fun p hp => World.cell?_alloc_lt w o p (by omega)
theorem Reads.setCell (h : Reads w B size A n xs) {p : Addr} (hB : B ≤ p.block) (u : Value) : Reads (w.setCell p u) B size A n xs :=
  h.keep fun q hq => World.cell?_setCell_other w p q u (fun e => by subst e; omega)
theorem Reads.grown (h : Reads w B size A n xs) {row : Option Nat} (hg : w.grownBy w' row) (hB : B ≤ w.heap.size) (hr : ∀ g, row = some g → B ≤ g) : Reads w' B size A n xs :=
  h.keep fun p hp => World.cell?_of_block (hg.block p.block (by omega) (fun e => by have := hr _ e.symm; omega))
theorem Reads.cut (h : Reads w B size A n xs) {k cap : Nat} (hk : k ≤ n) (hc : n ≤ cap) :
    Reads w B size (if cap = k then A else A.map (·.add (k * size))) (n - k) (xs.drop (k * size)) := by
  refine ⟨by rw [List.length_drop, h.1, Nat.sub_mul], fun hn => ?_⟩
  obtain ⟨ad, rfl, hb, hcell⟩ := h.2 (by omega)
  rw [if_neg (by omega)]
  refine ⟨ad.add (k * size), rfl, by rw [block_of_add]; exact hb, fun j u hu => ?_⟩
  rw [add_of_add]
  exact hcell _ u (by rw [← hu, List.getElem?_drop])
theorem Reads.of_own {base : Nat} {e : TypeId} {c : Nat} (h : w.ownsRow base e size (.slice A n c) n xs) : Reads w w.heap.size size A n xs := by
  refine ⟨h.1, fun hn => ?_⟩
  obtain ⟨g, cap, hv, _, hlt⟩ := h.form hn
  have hA : A = some ⟨g, 0, none⟩ := by injection hv
  subst hA
  exact ⟨_, rfl, hlt, h.cells (g := g) rfl⟩
end

def Blk (w : World) (g : Nat) (t : TypeId) (cs : Array Value) : Prop := w.heap[g]? = some (.cells cs t (0, 0))

section
variable {w w' : World} {g : Nat} {t : TypeId} {cs : Array Value}
theorem Blk.lt (h : Blk w g t cs) : g < w.heap.size := by
  rcases Nat.lt_or_ge g w.heap.size with hlt | hge
  · exact hlt
  · unfold Blk at h; rw [Array.getElem?_eq_none hge] at h; cases h
theorem Blk.cell (h : Blk w g t cs) (i : Nat) : w.cell? ⟨g, i, none⟩ = cs[i]? := cell_of_row w g i cs t (0, 0) h
theorem Blk.frozen (h : Blk w g t cs) (i : Nat) : w.frozen? ⟨g, i, none⟩ = false := by
  unfold Blk at h
  simp [World.frozen?, h]
theorem Blk.new (w : World) (t : TypeId) (cs : Array Value) : Blk (w.alloc (.cells cs t)) w.heap.size t cs := heap_alloc_new w _
theorem Blk.drew (h : Blk w g t cs) : Blk w.drew g t cs := h
theorem Blk.drewN (h : Blk w g t cs) (n : Nat) : Blk (w.drewN n) g t cs := h
theorem Blk.alloc (h : Blk w g t cs) (o : Obj) : Blk (w.alloc o) g t cs := (Below.heap_alloc w o g h.lt).trans h
theorem Blk.set_ (h : Blk w g t cs) (i : Nat) (u : Value) : Blk (w.setCell ⟨g, i, none⟩ u) g t (cs.setIfInBounds i u) := by
  unfold Blk at h ⊢
  simp [World.setCell, Array.getElem?_modify, h]
theorem Blk.far (h : Blk w g t cs) {p : Addr} (hp : g ≠ p.block) (u : Value) : Blk (w.setCell p u) g t cs := (Below.heap_setCell w p u g hp).trans h
theorem Blk.below {B : Nat} (h : Blk w g t cs) (hb : Below B w w') (hg : g < B) : Blk w' g t cs := (hb.block g hg).trans h
theorem Blk.grown {row : Option Nat} (h : Blk w g t cs) (hb : w.grownBy w' row) (hg : some g ≠ row) : Blk w' g t cs := (hb.block g h.lt hg).trans h
theorem Blk.ne_ {g' : Nat} {t' : TypeId} {cs' : Array Value} (h : Blk w g t cs) (h' : Blk w g' t' cs') (hne : t ≠ t') : g ≠ g' := by
  rintro rfl
  unfold Blk at h h'
  rw [h] at h'
  injection h' with h'
  injection h' with _ ht
  exact hne ht
theorem own_blk_ne {base : Nat} {e : TypeId} {size n : Nat} {v : Value} {xs : List Value} (h : w.ownsRow base e size v n xs) (hg : Blk w g t cs) (hne : e ≠ t) : v.ownBlock ≠ some g := by
  rcases h.2 with ⟨rfl, _⟩ | ⟨g', cap, cur, rfl, _, hh, _⟩
  · simp [Value.ownBlock]
  · intro he
    have : g' = g := by simpa [Value.ownBlock] using he
    subst this
    exact Blk.ne_ (t := e) hh hg hne rfl
end

section
variable {P : Program} (w : World)

theorem run_append_of_nil (base : Nat) (t ty e : TypeId) (i : TypeInfo) (size : Nat) (ht : P.underlying t = some (.slice e)) (hi : P.info? e = some i)
    (v : Value) (n : Nat) (xs : List Value) (hown : w.ownsRow base e size v n xs) (c : Nat) : (Builtin.append_ #[t, t] ty #[v, .slice none 0 c]).run P w = .ok v w := by
  rcases hown.2 with ⟨rfl, rfl⟩ | ⟨g, cap, cur, rfl, _, _, hnc, _⟩
  · simp [Builtin.append_, run_underlying ht, sizeOf, typeInfo, hi, Builtin.lenOf, Builtin.firstCells]
  · simp [Builtin.append_, run_underlying ht, sizeOf, typeInfo, hi, Builtin.lenOf, Builtin.firstCells, hnc, storeCells]

theorem run_append_any (base : Nat) (t ty e : TypeId) (i : TypeInfo) (z : Value) (size bytes : Nat) (ht : P.underlying t = some (.slice e)) (hi : P.info? e = some i) (hz : i.zero = some z)
    (hsize : i.size = size) (hby : i.bytes = bytes) (hzs : z.cells.size = size) (hsz : 0 < size)
    (v : Value) (n : Nat) (xs : List Value) (hown : w.ownsRow base e size v n xs)
    (B : Nat) (A : Option Addr) (m c : Nat) (news : List Value) (hr : Reads w B size A m news) (h1 : ∀ u ∈ news, u.oneCell' = true)
    (h63 : n + m ≤ maxLen) (hbytes : (n + m) * bytes ≤ 140737488355328) (hbase : base ≤ w.heap.size) :
    ∃ v' w', (Builtin.append_ #[t, t] ty #[v, .slice A m c]).run P w = .ok v' w' ∧ w'.ownsRow base e size v' (n + m) (xs ++ news) ∧ w.grownBy w' v.ownBlock ∧
      (v'.ownBlock = v.ownBlock ∨ v'.ownBlock = some w.heap.size) := by
  rcases A with _ | ad
  · have hm : m = 0 := by
      rcases Nat.eq_zero_or_pos m with h0 | h0
      · exact h0
      · obtain ⟨ad, h, _⟩ := hr.2 h0
        cases h
    subst hm
    have hn : news = [] := List.eq_nil_of_length_eq_zero (by simpa using hr.1)
    subst hn
    exact ⟨v, w, run_append_of_nil w base t ty e i size ht hi v n xs hown c, by simpa using hown, World.grownBy.refl w _, .inl rfl⟩
  · have hcells : ∀ j u, news[j]? = some u → w.cell? (ad.add j) = some u := by
      intro j u hu
      rcases Nat.eq_zero_or_pos m with h0 | h0
      · subst h0
        have hn : news = [] := List.eq_nil_of_length_eq_zero (by simpa using hr.1)
        subst hn
        simp at hu
      · obtain ⟨ad', h, _, hc⟩ := hr.2 h0
        injection h with h
        subst h
        exact hc j u hu
    obtain ⟨v', w', hrun, h2, h3, _, h5⟩ := run_append_own_at (P := P) w base t ty e i z size bytes ht hi hz hsize hby hzs hsz v n xs hown ad m c news hr.1 hcells h1 h63 hbytes hbase
    exact ⟨v', w', hrun, h2, h3, h5⟩

theorem wp_append_any {o : Oper} {a : Act} {K : Act → World → Prop} {Q : Exit → Act → World → Prop} (s x : Operand) (t : TypeId)
    (ho : o.op = .call { callee := .builtin .append, args := #[s, x], argTypes := #[t, t] })
    (base : Nat) (e : TypeId) (i : TypeInfo) (z : Value) (size bytes : Nat) (ht : P.underlying t = some (.slice e)) (hi : P.info? e = some i) (hz : i.zero = some z)
    (hsize : i.size = size) (hby : i.bytes = bytes) (hzs : z.cells.size = size) (hsz : 0 < size)
    (v : Value) (n : Nat) (xs : List Value) (hs : a.eval s = v) (hown : w.ownsRow base e size v n xs)
    (B : Nat) (A : Option Addr) (m c : Nat) (news : List Value) (hx : a.eval x = .slice A m c) (hr : Reads w B size A m news) (h1 : ∀ u ∈ news, u.oneCell' = true)
    (h63 : n + m ≤ maxLen) (hbytes : (n + m) * bytes ≤ 140737488355328) (hbase : base ≤ w.heap.size)
    (h : ∀ v' w', w'.ownsRow base e size v' (n + m) (xs ++ news) → w.grownBy w' v.ownBlock → (v'.ownBlock = v.ownBlock ∨ v'.ownBlock = some w.heap.size) → K (a.put o.dst v') w') : o.wp P a w K Q := by
  obtain ⟨v', w', hrun, h2, h3, h4⟩ := run_append_any (P := P) w base t o.type e i z size bytes ht hi hz hsize hby hzs hsz v n xs hown B A m c news hr h1 h63 hbytes hbase
  unfold Oper.wp execOp
  simp only [ho, resolve, invoke, builtin, Sem.run_bind, Sem.run_pure, Result.andThen_ok, List.map_toArray, List.map_cons, List.map_nil, hs, hx, hrun]
  exact h v' w' h2 h3 h4

theorem wpList_append_any {ops : Array Oper} {rest : List Oper} {o : Oper} {a : Act} {Q : Exit → Act → World → Prop} (hgd : o.guard = none) (s x : Operand) (t : TypeId)
    (ho : o.op = .call { callee := .builtin .append, args := #[s, x], argTypes := #[t, t] })
    (base : Nat) (e : TypeId) (i : TypeInfo) (z : Value) (size bytes : Nat) (ht : P.underlying t = some (.slice e)) (hi : P.info? e = some i) (hz : i.zero = some z)
    (hsize : i.size = size) (hby : i.bytes = bytes) (hzs : z.cells.size = size) (hsz : 0 < size)
    (v : Value) (n : Nat) (xs : List Value) (hs : a.eval s = v) (hown : w.ownsRow base e size v n xs)
    (B : Nat) (A : Option Addr) (m c : Nat) (news : List Value) (hx : a.eval x = .slice A m c) (hr : Reads w B size A m news) (h1 : ∀ u ∈ news, u.oneCell' = true)
    (h63 : n + m ≤ maxLen) (hbytes : (n + m) * bytes ≤ 140737488355328) (hbase : base ≤ w.heap.size)
    (h : ∀ v' w', w'.ownsRow base e size v' (n + m) (xs ++ news) → w.grownBy w' v.ownBlock → (v'.ownBlock = v.ownBlock ∨ v'.ownBlock = some w.heap.size) → wpList P ops Q rest (a.put o.dst v') w') : wpList P ops Q (o :: rest) a w :=
  wpList_plain hgd fun _ hK => wp_append_any w s x t ho base e i z size bytes ht hi hz hsize hby hzs hsz v n xs hs hown B A m c news hx hr h1 h63 hbytes hbase fun v' w' h2 h3 h4 => hK _ _ (h v' w' h2 h3 h4)

theorem step_append_any {ops : Array Oper} {o : Oper} {a : Act} {K : Act → World → Prop} {Q : Exit → Act → World → Prop} {E : Prop} (hgd : o.guard = none) (s x : Operand) (t : TypeId)
    (ho : o.op = .call { callee := .builtin .append, args := #[s, x], argTypes := #[t, t] })
    (base : Nat) (e : TypeId) (i : TypeInfo) (z : Value) (size bytes : Nat) (ht : P.underlying t = some (.slice e)) (hi : P.info? e = some i) (hz : i.zero = some z)
    (hsize : i.size = size) (hby : i.bytes = bytes) (hzs : z.cells.size = size) (hsz : 0 < size)
    (v : Value) (n : Nat) (xs : List Value) (hs : a.eval s = v) (hown : w.ownsRow base e size v n xs)
    (B : Nat) (A : Option Addr) (m c : Nat) (news : List Value) (hx : a.eval x = .slice A m c) (hr : Reads w B size A m news) (h1 : ∀ u ∈ news, u.oneCell' = true)
    (h63 : n + m ≤ maxLen) (hbytes : (n + m) * bytes ≤ 140737488355328) (hbase : base ≤ w.heap.size)
    (h : ∀ v' w', w'.ownsRow base e size v' (n + m) (xs ++ news) → w.grownBy w' v.ownBlock → (v'.ownBlock = v.ownBlock ∨ v'.ownBlock = some w.heap.size) → K (a.put o.dst v') w') :
    if Region.wanted o (yielded ops a.tmps) = true then Oper.wp P o a w K Q else E := by
  have hw : Region.wanted o (yielded ops a.tmps) = true := by simp [Region.wanted, hgd]
  rw [if_pos hw]
  exact wp_append_any w s x t ho base e i z size bytes ht hi hz hsize hby hzs hsz v n xs hs hown B A m c news hx hr h1 h63 hbytes hbase h
end

/-! Our own. -/
theorem ownsRow_form {w : World} {base : Nat} {e : TypeId} {size n : Nat} {v : Value} {xs : List Value} (h : w.ownsRow base e size v n xs) :
    ∃ A c, v = .slice A n c ∧ n ≤ c ∧ c ≤ maxLen := by
  obtain ⟨_, h | ⟨g, cap, cur, hv, _, _, h1, h2, _⟩⟩ := h
  · obtain ⟨rfl, rfl⟩ := h; exact ⟨none, 0, rfl, Nat.le_refl _, by unfold maxLen; omega⟩
  · exact ⟨_, cap, hv, h1, h2⟩
/-- A string of the reach. -/
def okS (s : ByteArray) : Prop := s.size ≤ 140737488351232
/-- A slice of strings that reads as ss, below block B. -/
def ReadS (w : World) (B : Nat) (A : Option Addr) (n : Nat) (ss : List ByteArray) : Prop := Reads w B 1 A n (ss.map Value.string)
theorem ReadS.len {w : World} {B n : Nat} {A : Option Addr} {ss : List ByteArray} (h : ReadS w B A n ss) : ss.length = n := by
  have := h.1; simpa using this
theorem ReadS.at_ {w : World} {B n k : Nat} {A : Option Addr} {ss : List ByteArray} (h : ReadS w B A n ss) (hk : k < ss.length) :
    ∃ ad, A = some ad ∧ ad.block < B ∧ w.cell? (ad.add k) = some (.string ss[k]) := by
  obtain ⟨ad, u, h1, h2, h3, h4⟩ := Reads.at_ (k := k) h (by have := h.len; omega)
  rw [List.getElem?_map, List.getElem?_eq_getElem hk] at h3
  simp only [Option.map_some, Option.some.injEq] at h3
  subst h3
  exact ⟨ad, h1, h2, h4⟩
/-- A slice of ints that reads as xs, below block B. -/
def ReadI (w : World) (B : Nat) (A : Option Addr) (n : Nat) (xs : List Int) : Prop := Reads w B 1 A n (xs.map (Value.int .i64))
theorem ReadI.len {w : World} {B n : Nat} {A : Option Addr} {xs : List Int} (h : ReadI w B A n xs) : xs.length = n := by
  have := h.1; simpa using this
theorem ReadI.at_ {w : World} {B n k : Nat} {A : Option Addr} {xs : List Int} (h : ReadI w B A n xs) (hk : k < xs.length) :
    ∃ ad, A = some ad ∧ ad.block < B ∧ w.cell? (ad.add k) = some (.int .i64 xs[k]) := by
  obtain ⟨ad, u, h1, h2, h3, h4⟩ := Reads.at_ (k := k) h (by have := h.len; omega)
  rw [List.getElem?_map, List.getElem?_eq_getElem hk] at h3
  simp only [Option.map_some, Option.some.injEq] at h3
  subst h3
  exact ⟨ad, h1, h2, h4⟩
end Go.Proofs.YtgkpoopiamicnaaDoor
namespace Go.Proofs.YtgkpoopiamicnaaDoor
open Go.ChangeShapes Go.WideShapes Go.ChangeAt Go.RowKit

section
variable {H : Type} {enc : TypeId × Value → H} {P : Program}
theorem trodAll_stays (hl : laidOutB P = true) {W W' : World} {sp' : Nat → Bool} : ∀ {ts : List TypeId} {vs : List Value} {ds : List (DataW H)} {ps : List MemPlace},
    ts.all (fun t => P.readableRec t && decide (t < P.types.size)) = true → DataW.TrodAll enc P W 0 (fun _ => true) true ts vs ds ps → (∀ p ∈ ps, W.sameAt W' p) → (∀ p ∈ ps, sp' p.block = true) → DataW.TrodAll enc P W' 0 sp' true ts vs ds ps := by
  intro ts
  induction ts with
  | nil => intro vs ds ps _ h _ _; obtain ⟨rfl, rfl, rfl⟩ := trodAll_nil h; exact trodAll_mk0
  | cons t ts ih =>
    intro vs ds ps ht h hs hsp
    obtain ⟨v, vs', d, ds', p, q, rfl, rfl, rfl, h1, h2⟩ := trodAll_cons h
    simp only [List.all_cons, Bool.and_eq_true, decide_eq_true_eq] at ht
    exact trodAll_cons_mk (WideElems.Trod_stays hl ht.1.1 ht.1.2 h1 (fun x hx => hs x (List.mem_append_left _ hx)) (fun x hx => hsp x (List.mem_append_left _ hx)))
      (ih ht.2 h2 (fun x hx => hs x (List.mem_append_right _ hx)) (fun x hx => hsp x (List.mem_append_right _ hx)))
/-- A law's last step: it returned true, and nothing that lay there has turned. -/
theorem law_post {f : Func} {s : ChangeSpec} {apart fresh handsOn again : Bool} {W W' : World} {args : Array Value} {ds gs : List (DataW H)} {before : List MemPlace} {tb : TypeId}
    (hl : laidOutB P = true) (hts : f.params.toList.all (fun t => P.readableRec t && decide (t < P.types.size)) = true) (hr : f.resultTypes = #[tb]) (hu : P.underlying tb = some .bool) (hv : s.vars = [])
    (hf : s.fn H (ds ++ gs) = { results := [.lit (.bool true)], args := ds }) (hW : DataW.Whole enc P f.params.toList s.vars apart W args.toList ds gs before) (hb : Below W.heap.size W W') :
    s.post enc P f apart fresh handsOn again W args (.bool true) W' := by
  have hlt : ∀ p ∈ before, p.block < W.heap.size := fun p hp => hW.lt p hp
  have hold : ∀ p ∈ before, (fun b => decide (b < W.heap.size)) p.block = true := fun p hp => by simpa using hlt p hp
  have hres : ∀ (b : Nat) (sp : Nat → Bool) (hd : Bool), DataW.TrodAll enc P W' b sp hd f.resultTypes.toList ((Value.bool true).resultList f.resultTypes.size) (s.fn H (ds ++ gs)).results [] := by
    intro b sp hd
    rw [hf, hr]
    exact trodAll_mk1 (shut_bool hu _)
  have hok : ∀ (j : Nat) (t : TypeId) (r : Value), f.resultTypes[j]? = some t → ((Value.bool true).resultList f.resultTypes.size)[j]? = some r → Value.okWide P W' .any 0 t r := ok_one hr rfl (okWide_bool_mk hu _)
  have hW' := hW
  obtain ⟨p, q, hA, hV, rfl, hz, hn⟩ := hW
  rw [hv] at hV
  obtain ⟨rfl, rfl⟩ := trodVars_none hV
  have hargs : ∀ sp : Nat → Bool, (∀ x ∈ p ++ [], sp x.block = true) → DataW.TrodAll enc P W' 0 sp true f.params.toList args.toList (s.fn H (ds ++ [])).args p := by
    intro sp hsp
    rw [hf]
    exact trodAll_stays hl hts hA (fun x hx => hb.same (hlt x (by simp [hx]))) (fun x hx => hsp x (by simp [hx]))
  have hvars : ∀ sp : Nat → Bool, (∀ x ∈ p ++ [], sp x.block = true) → DataW.TrodVars enc P W' sp s.vars (s.fn H (ds ++ [])).vars [] := by
    intro sp _
    rw [hf, hv]; rfl
  refine ⟨ds, [], p ++ [], [], p, [], hW', hres _ _ _, hargs _ hold, hvars _ hold, World.keptBut_mono (fun x hx => ⟨hx, .inr (by simpa using hx)⟩) (hb.frame (· ∈ p ++ [])), fun _ => ?_⟩
  refine ⟨hok, _, _, ([] ++ p) ++ [], ⟨[] ++ p, [], trodAll_append (hargs _ (fun _ _ => rfl)) (hres _ _ _), hvars _ (fun _ _ => rfl), rfl, ?_, ?_⟩, ?_⟩
  · intro b off hp
    have hin : MemPlace.cell b off ∈ p ++ [] := by simpa using hp
    rw [hb.frozen (hlt _ hin)]
    exact hz b off hin
  · intro ha
    simpa using hn ha
  · intro x hp _
    simpa using hp

theorem lt_cell {w : World} {a : Addr} {v : Value} (h : w.cell? a = some v) : a.block < w.heap.size := by
  rcases Nat.lt_or_ge a.block w.heap.size with h' | h'
  · exact h'
  · rw [World.cell?, Array.getElem?_eq_none h'] at h; cases h
theorem weightsAll_mem {e : TypeId} : ∀ {l : List (DataW H)} {d : DataW H}, d ∈ l → ∀ n ∈ d.weights P e, n ∈ DataW.weightsAll P e l
  | a :: l, d, hd, n, hn => by
    simp only [DataW.weightsAll, List.mem_append]
    rcases List.mem_cons.1 hd with rfl | hd
    · exact .inl hn
    · exact .inr (weightsAll_mem hd n hn)
theorem open_s {t : TypeId} {W : World} {base b0 : Nat} {v : Value} {d : DataW H} {ps : List MemPlace} (ht : P.underlying t = some .string) (hval : Value.okWide P W .any b0 t v) (h : DataW.Trod enc P W base (fun _ => true) true t v d ps) (hz : ∀ n ∈ d.weights P t, n ≤ reachBytes) :
    ∃ s : ByteArray, v = .string s ∧ okS s := by
  obtain ⟨s, rfl, rfl, _, hs⟩ := Go.ChangeMaps.open_string ht hval h
  refine ⟨s, rfl, ?_⟩
  have := hz s.data.toList.length (by simp [DataW.weights])
  unfold okS; unfold reachBytes at this; simpa using this
theorem open_ss {t e : TypeId} {W : World} {base : Nat} {v : Value} {d : DataW H} {ps : List MemPlace} (ht : P.underlying t = some (.slice e)) (he : P.underlying e = some .string) (hc : P.cellsOf e = 1) (hval : Value.okWide P W .any base t v)
    (h : DataW.Trod enc P W 0 (fun _ => true) true t v d ps) (hz : ∀ n ∈ d.weights P t, n ≤ reachBytes) :
    ∃ A n c ss, v = .slice A n c ∧ ReadS W W.heap.size A n ss ∧ (∀ s ∈ ss, okS s) ∧ n ≤ c ∧ c ≤ maxLen := by
  obtain ⟨A, n, c, rfl⟩ := okWide_slice ht hval
  obtain ⟨fuel, hf⟩ := h
  rcases open_strings ht he hc hf with ⟨hcs, hx⟩ | ⟨a, len, cap, ss, hcs, _, hl, hm, hlen, hx, hcell, hsz⟩
  · simp [Value.cells] at hcs
    obtain ⟨rfl, rfl, rfl⟩ := hcs
    exact ⟨none, 0, 0, [], rfl, Reads.none_, by simp, by omega, by unfold maxLen; omega⟩
  · simp [Value.cells] at hcs
    obtain ⟨rfl, rfl, rfl⟩ := hcs
    simp only [Prod.mk.injEq] at hx
    obtain ⟨rfl, rfl⟩ := hx
    simp only [if_true] at hlen
    have hcellT : ∀ j, j < n → W.cell? (a.add j) = some (.string ((ss.take n).getD j ByteArray.empty)) := by
      intro j hj
      rw [hcell j (by omega)]
      simp [List.getD, hj]
    refine ⟨some a, n, c, ss.take n, rfl, ⟨by simp; omega, fun hn => ⟨a, rfl, ?_, fun j u hu => ?_⟩⟩, fun s hs => ?_, hl, hm⟩
    · have := lt_cell (hcellT 0 hn)
      rwa [block_of_add] at this
    · rw [List.getElem?_map] at hu
      obtain ⟨s, hs, rfl⟩ := Option.map_eq_some_iff.1 hu
      have hj : j < n := by have := (List.getElem?_eq_some_iff.1 hs).1; simp at this; omega
      rw [hcellT j hj, List.getD, hs]; rfl
    · have h1 : (DataW.lit (.string s.data.toList) : DataW H) ∈ strs (H := H) (ss.take n) := List.mem_map.2 ⟨s, hs, rfl⟩
      have h2 := weightsAll_mem (P := P) (e := e) h1 s.data.toList.length (by simp [DataW.weights])
      have h3 := hz s.data.toList.length (by simp only [DataW.weights, ht, List.mem_cons, List.mem_append]; exact .inr (.inl h2))
      unfold okS; unfold reachBytes at h3; simpa using h3
end
end Go.Proofs.YtgkpoopiamicnaaDoor
namespace Go.Proofs.YtgkpoopiamicnaaDoor
open Go.RowKit

abbrev Bs := List UInt8
def mkB (l : Bs) : ByteArray := ⟨l.toArray⟩
def bl (s : ByteArray) : Bs := s.data.toList
theorem mkB_bl (s : ByteArray) : mkB (bl s) = s := by obtain ⟨⟨l⟩⟩ := s; rfl
theorem bl_mkB (l : Bs) : bl (mkB l) = l := rfl
theorem bl_len (s : ByteArray) : (bl s).length = s.size := by simp [bl]
theorem mkB_size (l : Bs) : (mkB l).size = l.length := by simp [mkB, ByteArray.size]
theorem extract_mkB (s : ByteArray) (a b : Nat) : s.extract a b = mkB (((bl s).take b).drop a) := by
  rw [Lib.extract_eq, mkB, bl, List.drop_take]
theorem bl_inj {a b : ByteArray} (h : bl a = bl b) : a = b := by rw [← mkB_bl a, h, mkB_bl]

/-- The parts of a text between its spaces. -/
def piecesL : Bs → List Bs
  | [] => [[]]
  | c :: l => if c = 32 then [] :: piecesL l else
    match piecesL l with
    | [] => [[c]]
    | p :: ps => (c :: p) :: ps
theorem piecesL_ne (l : Bs) : piecesL l ≠ [] := by
  cases l with
  | nil => simp [piecesL]
  | cons c l =>
    unfold piecesL
    split
    · simp
    · split <;> simp
theorem piecesL_none {l : Bs} (h : ∀ c ∈ l, c ≠ 32) : piecesL l = [l] := by
  induction l with
  | nil => rfl
  | cons c l ih =>
    have := ih (fun x hx => h x (by simp [hx]))
    unfold piecesL
    rw [if_neg (h c (by simp)), this]
theorem piecesL_cut {a b : Bs} (h : ∀ c ∈ a, c ≠ 32) : piecesL (a ++ 32 :: b) = a :: piecesL b := by
  induction a with
  | nil => simp [piecesL]
  | cons c a ih =>
    have := ih (fun x hx => h x (by simp [hx]))
    rw [List.cons_append, piecesL, if_neg (h c (by simp)), this]
theorem piecesL_length (l : Bs) : (piecesL l).length = l.count 32 + 1 := by
  induction l with
  | nil => rfl
  | cons c l ih =>
    unfold piecesL
    split
    · rename_i h; subst h; simp [ih]
    · rename_i h
      rw [List.count_cons_of_ne (by simpa using h)]
      split
      · rename_i e; exact absurd e (piecesL_ne l)
      · rename_i e; rw [← ih, e]; rfl
theorem piecesL_total (l : Bs) : ((piecesL l).map List.length).sum + l.count 32 = l.length := by
  induction l with
  | nil => rfl
  | cons c l ih =>
    unfold piecesL
    split
    · rename_i h; subst h; simp; omega
    · rename_i h
      rw [List.count_cons_of_ne (by simpa using h)]
      split
      · rename_i e; exact absurd e (piecesL_ne l)
      · rename_i e; rw [e] at ih; simp at ih ⊢; omega
theorem le_sum_of_mem' {l : List Nat} {n : Nat} (h : n ∈ l) : n ≤ l.sum := by
  induction l with
  | nil => cases h
  | cons a l ih =>
    rw [List.sum_cons]
    rcases List.mem_cons.1 h with rfl | h
    · omega
    · have := ih h; omega
def piecesB (s : ByteArray) : List ByteArray := (piecesL (bl s)).map mkB
theorem piecesB_length (s : ByteArray) : (piecesB s).length = (bl s).count 32 + 1 := by rw [piecesB, List.length_map, piecesL_length]
theorem piecesB_le (s : ByteArray) : (piecesB s).length ≤ s.size + 1 := by
  rw [piecesB_length, ← bl_len]; have := List.count_le_length (a := (32 : UInt8)) (l := bl s); omega
theorem piecesB_size {s p : ByteArray} (h : p ∈ piecesB s) : p.size ≤ s.size := by
  obtain ⟨l, hl, rfl⟩ := List.mem_map.1 h
  have h1 := piecesL_total (bl s)
  have h2 : l.length ≤ ((piecesL (bl s)).map List.length).sum := le_sum_of_mem' (List.mem_map_of_mem hl)
  rw [mkB_size, ← bl_len]; omega

/-- The state of the reference's loop: 'done' lies ahead of 'from', none of the bytes from there on up to i is a space. -/
def PiecesAt (s : ByteArray) (fr i : Nat) (done : List ByteArray) : Prop :=
  fr ≤ i ∧ piecesB s = done ++ (piecesL ((bl s).drop fr)).map mkB ∧ ∀ j (hj : j < s.size), fr ≤ j → j < i → s[j] ≠ 32
theorem piecesAt_start (s : ByteArray) : PiecesAt s 0 0 [] := ⟨Nat.le_refl _, by simp [piecesB], fun j _ _ h => absurd h (by omega)⟩
theorem bl_get (s : ByteArray) (j : Nat) (h : j < s.size) : (bl s)[j]'(by rw [bl_len]; exact h) = s[j] := rfl
theorem piecesAt_mem {s : ByteArray} {fr i : Nat} {done : List ByteArray} (h : PiecesAt s fr i done) (hi : i ≤ s.size) : ∀ c ∈ ((bl s).take i).drop fr, c ≠ 32 := by
  intro c hc
  obtain ⟨j, hj, rfl⟩ := List.getElem_of_mem hc
  simp only [List.length_drop, List.length_take, bl_len] at hj
  rw [List.getElem_drop, List.getElem_take]
  exact h.2.2 (fr + j) (by omega) (by omega) (by omega)
theorem piecesAt_go {s : ByteArray} {fr i : Nat} {done : List ByteArray} (h : PiecesAt s fr i done) (hi : i < s.size) (hc : s[i] ≠ 32) : PiecesAt s fr (i + 1) done :=
  ⟨by have := h.1; omega, h.2.1, fun j hj h1 h2 => by
    by_cases e : j = i
    · subst e; exact hc
    · exact h.2.2 j hj h1 (by omega)⟩
theorem piecesAt_cut {s : ByteArray} {fr i : Nat} {done : List ByteArray} (h : PiecesAt s fr i done) (hi : i < s.size) (hc : s[i] = 32) : PiecesAt s (i + 1) (i + 1) (done ++ [s.extract fr i]) := by
  refine ⟨Nat.le_refl _, ?_, fun j _ _ _ => by omega⟩
  have hm := piecesAt_mem h (by omega)
  have hfi := h.1
  have e : (bl s).drop fr = ((bl s).take i).drop fr ++ 32 :: (bl s).drop (i + 1) := by
    have h1 : (bl s).drop i = 32 :: (bl s).drop (i + 1) := by
      rw [List.drop_eq_getElem_cons (by rw [bl_len]; exact hi)]; congr 1
    rw [← h1]
    conv => lhs; rw [← List.take_append_drop i (bl s)]
    rw [List.drop_append_of_le_length (by simp [bl_len]; omega)]
  rw [h.2.1, e, piecesL_cut hm, extract_mkB]; simp
theorem piecesAt_end {s : ByteArray} {fr : Nat} {done : List ByteArray} (h : PiecesAt s fr s.size done) : piecesB s = done ++ [s.extract fr s.size] := by
  have hm := piecesAt_mem h (Nat.le_refl _)
  have e : (bl s).take s.size = bl s := List.take_of_length_le (by rw [bl_len]; exact Nat.le_refl _)
  rw [h.2.1, extract_mkB]
  rw [e] at hm ⊢
  rw [piecesL_none hm]; rfl

/-! ### letters -/
/-- One letter more: is it longer than the best one so far, and does the text begin with it? -/
def better39 (s : ByteArray) (b : ByteArray × Int) (e : ByteArray × Nat) : ByteArray × Int := if b.1.size < e.1.size ∧ bl e.1 <+: bl s then (e.1, e.2) else b
def entsFrom : Nat → List (List ByteArray) → List (ByteArray × Nat)
  | _, [] => []
  | k, g :: gs => g.map (·, k) ++ entsFrom (k + 1) gs
def ents (gs : List (List ByteArray)) : List (ByteArray × Nat) := entsFrom 0 gs
/-- The longest letter with which a text begins, and its place. -/
def longest (gs : List (List ByteArray)) (s : ByteArray) : ByteArray × Int := (ents gs).foldl (better39 s) (ByteArray.empty, -1)
theorem entsFrom_append (k : Nat) (a b : List (List ByteArray)) : entsFrom k (a ++ b) = entsFrom k a ++ entsFrom (k + a.length) b := by
  induction a generalizing k with
  | nil => simp [entsFrom]
  | cons x a ih => simp only [List.cons_append, entsFrom, ih, List.append_assoc, List.length_cons]; congr 3; omega
theorem ents_take_succ {gs : List (List ByteArray)} {k : Nat} (hk : k < gs.length) : ents (gs.take (k + 1)) = ents (gs.take k) ++ gs[k].map (·, k) := by
  unfold ents
  rw [List.take_succ_eq_append_getElem hk, entsFrom_append]
  simp [entsFrom, List.length_take, Nat.min_eq_left (Nat.le_of_lt hk)]
theorem prefix_iff (x s : ByteArray) : bl x <+: bl s ↔ x.size ≤ s.size ∧ s.extract 0 x.size = x := by
  rw [List.prefix_iff_eq_take]
  constructor
  · intro h
    have hl : x.size ≤ s.size := by
      have := congrArg List.length h
      rw [List.length_take, bl_len, bl_len] at this; omega
    refine ⟨hl, ?_⟩
    rw [extract_mkB, List.drop_zero, ← bl_len x, ← h, mkB_bl]
  · rintro ⟨_, h⟩
    have h2 : bl (s.extract 0 x.size) = bl x := by rw [h]
    rw [extract_mkB, bl_mkB, List.drop_zero] at h2
    rw [bl_len]; exact h2.symm
/-- What a letter found is: a letter of the alphabet, or none. -/
theorem longest_sound (gs : List (List ByteArray)) (s : ByteArray) : (longest gs s = (ByteArray.empty, -1)) ∨ (∃ e ∈ ents gs, longest gs s = (e.1, (e.2 : Int)) ∧ 0 < e.1.size ∧ bl e.1 <+: bl s) := by
  unfold longest
  have : ∀ (l : List (ByteArray × Nat)) (b : ByteArray × Int), l.foldl (better39 s) b = b ∨ ∃ e ∈ l, l.foldl (better39 s) b = (e.1, (e.2 : Int)) ∧ 0 < e.1.size ∧ bl e.1 <+: bl s := by
    intro l
    induction l with
    | nil => intro b; exact .inl rfl
    | cons a l ih =>
      intro b
      rw [List.foldl_cons]
      rcases ih (better39 s b a) with h | ⟨e, he, h⟩
      · rw [h]
        unfold better39
        split
        · rename_i hc; exact .inr ⟨a, by simp, rfl, by omega, hc.2⟩
        · exact .inl rfl
      · exact .inr ⟨e, by simp [he], h⟩
  exact this _ _

/-! ### the letters of a text -/
def dropB (s : ByteArray) (a : Nat) : ByteArray := s.extract a s.size
theorem bl_dropB (s : ByteArray) (a : Nat) : bl (dropB s a) = (bl s).drop a := by
  rw [dropB, extract_mkB, bl_mkB, List.take_of_length_le (by rw [bl_len]; exact Nat.le_refl _)]
theorem dropB_dropB (s : ByteArray) (a b : Nat) : dropB (dropB s a) b = dropB s (a + b) := bl_inj (by rw [bl_dropB, bl_dropB, bl_dropB, List.drop_drop])
theorem dropB_zero (s : ByteArray) : dropB s 0 = s := bl_inj (by rw [bl_dropB, List.drop_zero])
theorem dropB_size (s : ByteArray) (a : Nat) : (dropB s a).size = s.size - a := by rw [← bl_len, bl_dropB, List.length_drop, bl_len]
def parseN (gs : List (List ByteArray)) : Nat → ByteArray → Option (List (ByteArray × Int))
  | 0, s => if s.size = 0 then some [] else none
  | n + 1, s => if s.size = 0 then some [] else
    if (longest gs s).2 < 0 then none else (parseN gs n (dropB s (longest gs s).1.size)).map (longest gs s :: ·)
/-- The letters of a text, with their places; none: it is not written in the alphabet. -/
def parse (gs : List (List ByteArray)) (s : ByteArray) : Option (List (ByteArray × Int)) := parseN gs s.size s
theorem longest_pos {gs : List (List ByteArray)} {s : ByteArray} (h : ¬ (longest gs s).2 < 0) : 0 < (longest gs s).1.size ∧ (longest gs s).1.size ≤ s.size := by
  rcases longest_sound gs s with h' | ⟨e, _, h', h1, h2⟩
  · rw [h'] at h; exact absurd (by decide) h
  · rw [h']; exact ⟨h1, by have := h2.length_le; rwa [bl_len, bl_len] at this⟩
theorem parseN_eq (gs : List (List ByteArray)) : ∀ (n m : Nat) (s : ByteArray), s.size ≤ n → s.size ≤ m → parseN gs n s = parseN gs m s := by
  intro n
  induction n with
  | zero =>
    intro m s h _
    cases m with
    | zero => rfl
    | succ m => simp only [parseN]; rw [if_pos (by omega), if_pos (by omega)]
  | succ n ih =>
    intro m s h h'
    cases m with
    | zero => simp only [parseN]; rw [if_pos (by omega), if_pos (by omega)]
    | succ m =>
      simp only [parseN]
      split
      · rfl
      · split
        · rfl
        · rename_i h1
          have := longest_pos h1
          rw [ih m _ (by rw [dropB_size]; omega) (by rw [dropB_size]; omega)]
theorem parse_nil (gs : List (List ByteArray)) {s : ByteArray} (h : s.size = 0) : parse gs s = some [] := by
  unfold parse; rw [h]; simp only [parseN]; rw [if_pos h]
theorem parse_cons (gs : List (List ByteArray)) {s : ByteArray} (h : 0 < s.size) (h1 : ¬ (longest gs s).2 < 0) : parse gs s = (parse gs (dropB s (longest gs s).1.size)).map (longest gs s :: ·) := by
  unfold parse
  obtain ⟨n, hn⟩ : ∃ n, s.size = n + 1 := ⟨s.size - 1, by omega⟩
  have h2 := longest_pos h1
  rw [hn]; simp only [parseN]
  rw [if_neg (by omega), if_neg h1, parseN_eq gs n (dropB s (longest gs s).1.size).size _ (by rw [dropB_size]; omega) (Nat.le_refl _)]
theorem parse_none (gs : List (List ByteArray)) {s : ByteArray} (h : 0 < s.size) (h1 : (longest gs s).2 < 0) : parse gs s = none := by
  unfold parse
  obtain ⟨n, hn⟩ : ∃ n, s.size = n + 1 := ⟨s.size - 1, by omega⟩
  rw [hn]; simp only [parseN]
  rw [if_neg (by omega), if_pos h1]
theorem parse_length (gs : List (List ByteArray)) : ∀ (n : Nat) (s : ByteArray) (es : List (ByteArray × Int)), s.size ≤ n → parse gs s = some es → es.length ≤ s.size := by
  intro n
  induction n with
  | zero => intro s es h h1; rw [parse_nil gs (by omega)] at h1; injection h1 with h1; subst h1; simp
  | succ n ih =>
    intro s es h h1
    by_cases h0 : s.size = 0
    · rw [parse_nil gs h0] at h1; injection h1 with h1; subst h1; simp
    · by_cases h2 : (longest gs s).2 < 0
      · rw [parse_none gs (by omega) h2] at h1; cases h1
      · rw [parse_cons gs (by omega) h2] at h1
        have h3 := longest_pos h2
        obtain ⟨es', he, rfl⟩ := Option.map_eq_some_iff.1 h1
        have := ih _ _ (by rw [dropB_size]; omega) he
        rw [dropB_size] at this
        simp only [List.length_cons]; omega
/-- What reading a text comes to: the error, and the letters. -/
def readRes (gs : List (List ByteArray)) (s : ByteArray) : Int × List (ByteArray × Int) :=
  if 65536 < s.size then (11, []) else match parse gs s with
    | none => (10, [])
    | some es => (0, es)
def letS (es : List (ByteArray × Int)) : List ByteArray := es.map (·.1)
def keyS (es : List (ByteArray × Int)) : List Int := es.map (·.2)
end Go.Proofs.YtgkpoopiamicnaaDoor
namespace Go.Proofs.YtgkpoopiamicnaaDoor
open Go.RowKit

def letterB (l : List UInt8) : Bool := decide (1 ≤ l.length) && decide (l.length ≤ 8) && l.all (fun c => decide (32 < c.toNat))
theorem letterB_short {l : List UInt8} (h : l.length < 1 ∨ 8 < l.length) : letterB l = false := by
  unfold letterB
  rcases h with h | h
  · rw [decide_eq_false (show ¬ 1 ≤ l.length by omega)]; rfl
  · rw [decide_eq_false (show ¬ l.length ≤ 8 by omega)]; simp
theorem letterB_bad {l : List UInt8} {k : Nat} (hk : k < l.length) (h : l[k].toNat ≤ 32) : letterB l = false := by
  have : l.all (fun c => decide (32 < c.toNat)) = false := by
    rw [List.all_eq_false]; exact ⟨l[k], List.getElem_mem hk, by simp; omega⟩
  unfold letterB; rw [this]; simp
theorem letterB_good {l : List UInt8} (h1 : 1 ≤ l.length) (h8 : l.length ≤ 8) (h : ∀ j (hj : j < l.length), 32 < l[j].toNat) : letterB l = true := by
  unfold letterB
  rw [decide_eq_true h1, decide_eq_true h8]
  simp only [Bool.and_self, Bool.true_and, List.all_eq_true, decide_eq_true_eq]
  intro c hc; obtain ⟨j, hj, rfl⟩ := List.getElem_of_mem hc; exact h j hj

theorem info_string : (Tryd.prog.info? 9).map (fun i => (i.zero, i.size, i.bytes)) = some (some (.string ByteArray.empty), 1, 16) := by kernel_rfl

/-- A call hands back a new row of strings. -/
def GivesS (w : World) (ss : List ByteArray) (e : Ending) (w' : World) : Prop :=
  ∃ v, e = .returned v ∧ w'.ownsRow w.heap.size 9 1 v ss.length (ss.map Value.string) ∧ Below w.heap.size w w'

end Go.Proofs.YtgkpoopiamicnaaDoor
