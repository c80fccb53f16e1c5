/-
 Words for memory, of no program: a slice that reads as a list; a block that is known whole; an append onto a row of the call's own. Conditions: none. .. Conditions: as named.
-/
import Derived.WalkSpells
import Derived.Lib.Hide
import Derived.Deep.AppendLies
import Derived.Deep.Draws
import Derived.ProofKit
import Derived.OpenShut
import Derived.Deep.DeepHandedRow
import Derived.Shelf.Vars
import Derived.Test.YtmepaeahchiglaaGreatDoorCards
import Derived.Test.YtmepaeahchiglaaGreatDoorTie
import Derived.Deep.DeepLaidRun
import Derived.StillTailTactics
namespace Go.Proofs.YtmepaeahchiglaaGreatDoor
open Go.RowKit
theorem block_of_add (a : Addr) (n : Nat) : (a.add n).block = a.block := by unfold Addr.add; split <;> rfl
theorem add_of_add (a : Addr) (i j : Nat) : (a.add i).add j = a.add (i + j) := by
 unfold Addr.add
 by_cases hi : i = 0 <;> by_cases hj : j = 0 <;> simp [hi, hj, Nat.add_assoc]
def Reads (w : World) (B size : Nat) (A : Option Addr) (n : Nat) (xs : List Value) : Prop :=
 xs.length = n * size ∧ (0 < n → ∃ ad, A = some ad ∧ ad.block < B ∧ ∀ j u, xs[j]? = some u → w.cell? (ad.add j) = some u)
section
variable {w w' : World} {B B' size n : Nat} {A : Option Addr} {xs : List Value}
theorem Reads.none_ : Reads w B size A 0 [] := ⟨by simp, fun h => absurd h (by omega)⟩
theorem Reads.at_ {k : Nat} (h : Reads w B 1 A n xs) (hk : k < n) : ∃ ad u, A = some ad ∧ ad.block < B ∧ xs[k]? = some u ∧ w.cell? (ad.add k) = some u := by
 obtain ⟨ad, e, hb, hc⟩ := h.2 (by omega)
 have hl : k < xs.length := by have := h.1; omega
 exact ⟨ad, xs[k], e, hb, List.getElem?_eq_getElem hl, hc k _ (List.getElem?_eq_getElem hl)⟩
theorem Reads.keep (h : Reads w B size A n xs) (hk : ∀ p : Addr, p.block < B → w'.cell? p = w.cell? p) : Reads w' B size A n xs :=
 ⟨h.1, fun hn => by
   obtain ⟨ad, e, hb, hc⟩ := h.2 hn
   exact ⟨ad, e, hb, fun j u hu => (hk _ (by rw [block_of_add]; exact hb)).trans (hc j u hu)⟩⟩
theorem Reads.more (h : Reads w B size A n xs) (hB : B ≤ B') : Reads w B' size A n xs :=
 ⟨h.1, fun hn => by
   obtain ⟨ad, e, hb, hc⟩ := h.2 hn
   exact ⟨ad, e, by omega, hc⟩⟩
theorem Reads.below (h : Reads w B size A n xs) (hb : Below B w w') : Reads w' B size A n xs := h.keep fun _ hp => hb.cell hp
theorem Reads.drew (h : Reads w B size A n xs) : Reads w.drew B size A n xs := h
theorem Reads.alloc (h : Reads w B size A n xs) (hB : B ≤ w.heap.size) (o : Obj) : Reads (w.alloc o) B size A n xs := h.keep fun p hp => World.cell?_alloc_lt w o p (by omega)
theorem Reads.setCell (h : Reads w B size A n xs) {p : Addr} (hB : B ≤ p.block) (u : Value) : Reads (w.setCell p u) B size A n xs :=
 h.keep fun q hq => World.cell?_setCell_other w p q u (fun e => by subst e; omega)
theorem Reads.grown (h : Reads w B size A n xs) {row : Option Nat} (hg : w.grownBy w' row) (hB : B ≤ w.heap.size) (hr : ∀ g, row = some g → B ≤ g) : Reads w' B size A n xs :=
 h.keep fun p hp => World.cell?_of_block (hg.block p.block (by omega) (fun e => by have := hr _ e.symm; omega))
theorem Reads.cut (h : Reads w B size A n xs) {k cap : Nat} (hk : k ≤ n) (hc : n ≤ cap) :
 Reads w B size (if cap = k then A else A.map (·.add (k * size))) (n - k) (xs.drop (k * size)) := by
 refine ⟨by rw [List.length_drop, h.1, Nat.sub_mul], fun hn => ?_⟩
 obtain ⟨ad, rfl, hb, hcell⟩ := h.2 (by omega)
 rw [if_neg (by omega)]
 refine ⟨ad.add (k * size), rfl, by rw [block_of_add]; exact hb, fun j u hu => ?_⟩
 rw [add_of_add]
 exact hcell _ u (by rw [← hu, List.getElem?_drop])
theorem Reads.of_own {base : Nat} {e : TypeId} {c : Nat} (h : w.ownsRow base e size (.slice A n c) n xs) : Reads w w.heap.size size A n xs := by
 refine ⟨h.1, fun hn => ?_⟩
 obtain ⟨g, cap, hv, _, hlt⟩ := h.form hn
 have hA : A = some ⟨g, 0, none⟩ := by injection hv
 subst hA
 exact ⟨_, rfl, hlt, h.cells (g := g) rfl⟩
end
def Blk (w : World) (g : Nat) (t : TypeId) (cs : Array Value) : Prop := w.heap[g]? = some (.cells cs t (0, 0))
section
variable {w w' : World} {g : Nat} {t : TypeId} {cs : Array Value}
theorem Blk.lt (h : Blk w g t cs) : g < w.heap.size := by
 rcases Nat.lt_or_ge g w.heap.size with hlt | hge
 ·exact hlt
 ·unfold Blk at h; rw [Array.getElem?_eq_none hge] at h; cases h
theorem Blk.cell (h : Blk w g t cs) (i : Nat) : w.cell? ⟨g, i, none⟩ = cs[i]? := cell_of_row w g i cs t (0, 0) h
theorem Blk.frozen (h : Blk w g t cs) (i : Nat) : w.frozen? ⟨g, i, none⟩ = false := by
 unfold Blk at h
 simp [World.frozen?, h]
theorem Blk.new (w : World) (t : TypeId) (cs : Array Value) : Blk (w.alloc (.cells cs t)) w.heap.size t cs := heap_alloc_new w _
theorem Blk.drew (h : Blk w g t cs) : Blk w.drew g t cs := h
theorem Blk.alloc (h : Blk w g t cs) (o : Obj) : Blk (w.alloc o) g t cs := (Below.heap_alloc w o g h.lt).trans h
theorem Blk.set_ (h : Blk w g t cs) (i : Nat) (u : Value) : Blk (w.setCell ⟨g, i, none⟩ u) g t (cs.setIfInBounds i u) := by
 unfold Blk at h ⊢
 simp [World.setCell, Array.getElem?_modify, h]
theorem Blk.far (h : Blk w g t cs) {p : Addr} (hp : g ≠ p.block) (u : Value) : Blk (w.setCell p u) g t cs := (Below.heap_setCell w p u g hp).trans h
theorem Blk.below {B : Nat} (h : Blk w g t cs) (hb : Below B w w') (hg : g < B) : Blk w' g t cs := (hb.block g hg).trans h
theorem Blk.grown {row : Option Nat} (h : Blk w g t cs) (hb : w.grownBy w' row) (hg : some g ≠ row) : Blk w' g t cs := (hb.block g h.lt hg).trans h
theorem Blk.ne_ {g' : Nat} {t' : TypeId} {cs' : Array Value} (h : Blk w g t cs) (h' : Blk w g' t' cs') (hne : t ≠ t') : g ≠ g' := by
 rintro rfl
 unfold Blk at h h'
 rw [h] at h'
 injection h' with h'
 injection h' with _ ht
 exact hne ht
theorem own_blk_ne {base : Nat} {e : TypeId} {size n : Nat} {v : Value} {xs : List Value} (h : w.ownsRow base e size v n xs) (hg : Blk w g t cs) (hne : e ≠ t) : v.ownBlock ≠ some g := by
 rcases h.2 with ⟨rfl, _⟩ | ⟨g', cap, cur, rfl, _, hh, _⟩
 ·simp [Value.ownBlock]
 ·intro he
  have : g' = g := by simpa [Value.ownBlock] using he
  subst this
  exact Blk.ne_ (t := e) hh hg hne rfl
end
section
variable {P : Program} (w : World)
theorem run_append_of_nil (base : Nat) (t ty e : TypeId) (i : TypeInfo) (size : Nat) (ht : P.underlying t = some (.slice e)) (hi : P.info? e = some i)
 (v : Value) (n : Nat) (xs : List Value) (hown : w.ownsRow base e size v n xs) (c : Nat) : (Builtin.append_ #[t, t] ty #[v, .slice none 0 c]).run P w = .ok v w := by
 rcases hown.2 with ⟨rfl, rfl⟩ | ⟨g, cap, cur, rfl, _, _, hnc, _⟩
 ·simp [Builtin.append_, run_underlying ht, sizeOf, typeInfo, hi, Builtin.lenOf, Builtin.firstCells]
 ·simp [Builtin.append_, run_underlying ht, sizeOf, typeInfo, hi, Builtin.lenOf, Builtin.firstCells, hnc, storeCells]
theorem run_append_any (base : Nat) (t ty e : TypeId) (i : TypeInfo) (z : Value) (size bytes : Nat) (ht : P.underlying t = some (.slice e)) (hi : P.info? e = some i) (hz : i.zero = some z)
 (hsize : i.size = size) (hby : i.bytes = bytes) (hzs : z.cells.size = size) (hsz : 0 < size)
 (v : Value) (n : Nat) (xs : List Value) (hown : w.ownsRow base e size v n xs)
 (B : Nat) (A : Option Addr) (m c : Nat) (news : List Value) (hr : Reads w B size A m news) (h1 : ∀ u ∈ news, u.oneCell' = true)
 (h63 : n + m ≤ maxLen) (hbytes : (n + m) * bytes ≤ 140737488355328) (hbase : base ≤ w.heap.size) :
 ∃ v' w', (Builtin.append_ #[t, t] ty #[v, .slice A m c]).run P w = .ok v' w' ∧ w'.ownsRow base e size v' (n + m) (xs ++ news) ∧ w.grownBy w' v.ownBlock ∧
  (v'.ownBlock = v.ownBlock ∨ v'.ownBlock = some w.heap.size) := by
 rcases A with _ | ad
 ·have hm : m = 0 := by
   rcases Nat.eq_zero_or_pos m with h0 | h0
   ·exact h0
   ·obtain ⟨ad, h, _⟩ := hr.2 h0
    cases h
  subst hm
  have hn : news = [] := List.eq_nil_of_length_eq_zero (by simpa using hr.1)
  subst hn
  exact ⟨v, w, run_append_of_nil w base t ty e i size ht hi v n xs hown c, by simpa using hown, World.grownBy.refl w _, .inl rfl⟩
 ·have hcells : ∀ j u, news[j]? = some u → w.cell? (ad.add j) = some u := by
   intro j u hu
   rcases Nat.eq_zero_or_pos m with h0 | h0
   ·subst h0
    have hn : news = [] := List.eq_nil_of_length_eq_zero (by simpa using hr.1)
    subst hn
    simp at hu
   ·obtain ⟨ad', h, _, hc⟩ := hr.2 h0
    injection h with h
    subst h
    exact hc j u hu
  obtain ⟨v', w', hrun, h2, h3, _, h5⟩ := run_append_own_at (P := P) w base t ty e i z size bytes ht hi hz hsize hby hzs hsz v n xs hown ad m c news hr.1 hcells h1 h63 hbytes hbase
  exact ⟨v', w', hrun, h2, h3, h5⟩
theorem wp_append_any {o : Oper} {a : Act} {K : Act → World → Prop} {Q : Exit → Act → World → Prop} (s x : Operand) (t : TypeId)
 (ho : o.op = .call { callee := .builtin .append, args := #[s, x], argTypes := #[t, t] })
 (base : Nat) (e : TypeId) (i : TypeInfo) (z : Value) (size bytes : Nat) (ht : P.underlying t = some (.slice e)) (hi : P.info? e = some i) (hz : i.zero = some z)
 (hsize : i.size = size) (hby : i.bytes = bytes) (hzs : z.cells.size = size) (hsz : 0 < size)
 (v : Value) (n : Nat) (xs : List Value) (hs : a.eval s = v) (hown : w.ownsRow base e size v n xs)
 (B : Nat) (A : Option Addr) (m c : Nat) (news : List Value) (hx : a.eval x = .slice A m c) (hr : Reads w B size A m news) (h1 : ∀ u ∈ news, u.oneCell' = true)
 (h63 : n + m ≤ maxLen) (hbytes : (n + m) * bytes ≤ 140737488355328) (hbase : base ≤ w.heap.size)
 (h : ∀ v' w', w'.ownsRow base e size v' (n + m) (xs ++ news) → w.grownBy w' v.ownBlock → (v'.ownBlock = v.ownBlock ∨ v'.ownBlock = some w.heap.size) → K (a.put o.dst v') w') : o.wp P a w K Q := by
 obtain ⟨v', w', hrun, h2, h3, h4⟩ := run_append_any (P := P) w base t o.type e i z size bytes ht hi hz hsize hby hzs hsz v n xs hown B A m c news hr h1 h63 hbytes hbase
 unfold Oper.wp execOp
 simp only [ho, resolve, invoke, builtin, Sem.run_bind, Sem.run_pure, Result.andThen_ok, List.map_toArray, List.map_cons, List.map_nil, hs, hx, hrun]
 exact h v' w' h2 h3 h4
theorem wpList_append_any {ops : Array Oper} {rest : List Oper} {o : Oper} {a : Act} {Q : Exit → Act → World → Prop} (hgd : o.guard = none) (s x : Operand) (t : TypeId)
 (ho : o.op = .call { callee := .builtin .append, args := #[s, x], argTypes := #[t, t] })
 (base : Nat) (e : TypeId) (i : TypeInfo) (z : Value) (size bytes : Nat) (ht : P.underlying t = some (.slice e)) (hi : P.info? e = some i) (hz : i.zero = some z)
 (hsize : i.size = size) (hby : i.bytes = bytes) (hzs : z.cells.size = size) (hsz : 0 < size)
 (v : Value) (n : Nat) (xs : List Value) (hs : a.eval s = v) (hown : w.ownsRow base e size v n xs)
 (B : Nat) (A : Option Addr) (m c : Nat) (news : List Value) (hx : a.eval x = .slice A m c) (hr : Reads w B size A m news) (h1 : ∀ u ∈ news, u.oneCell' = true)
 (h63 : n + m ≤ maxLen) (hbytes : (n + m) * bytes ≤ 140737488355328) (hbase : base ≤ w.heap.size)
 (h : ∀ v' w', w'.ownsRow base e size v' (n + m) (xs ++ news) → w.grownBy w' v.ownBlock → (v'.ownBlock = v.ownBlock ∨ v'.ownBlock = some w.heap.size) → wpList P ops Q rest (a.put o.dst v') w') : wpList P ops Q (o :: rest) a w :=
 wpList_plain hgd fun _ hK => wp_append_any w s x t ho base e i z size bytes ht hi hz hsize hby hzs hsz v n xs hs hown B A m c news hx hr h1 h63 hbytes hbase fun v' w' h2 h3 h4 => hK _ _ (h v' w' h2 h3 h4)
theorem step_append_any {ops : Array Oper} {o : Oper} {a : Act} {K : Act → World → Prop} {Q : Exit → Act → World → Prop} {E : Prop} (hgd : o.guard = none) (s x : Operand) (t : TypeId)
 (ho : o.op = .call { callee := .builtin .append, args := #[s, x], argTypes := #[t, t] })
 (base : Nat) (e : TypeId) (i : TypeInfo) (z : Value) (size bytes : Nat) (ht : P.underlying t = some (.slice e)) (hi : P.info? e = some i) (hz : i.zero = some z)
 (hsize : i.size = size) (hby : i.bytes = bytes) (hzs : z.cells.size = size) (hsz : 0 < size)
 (v : Value) (n : Nat) (xs : List Value) (hs : a.eval s = v) (hown : w.ownsRow base e size v n xs)
 (B : Nat) (A : Option Addr) (m c : Nat) (news : List Value) (hx : a.eval x = .slice A m c) (hr : Reads w B size A m news) (h1 : ∀ u ∈ news, u.oneCell' = true)
 (h63 : n + m ≤ maxLen) (hbytes : (n + m) * bytes ≤ 140737488355328) (hbase : base ≤ w.heap.size)
 (h : ∀ v' w', w'.ownsRow base e size v' (n + m) (xs ++ news) → w.grownBy w' v.ownBlock → (v'.ownBlock = v.ownBlock ∨ v'.ownBlock = some w.heap.size) → K (a.put o.dst v') w') :
 if Region.wanted o (yielded ops a.tmps) = true then Oper.wp P o a w K Q else E := by
 have hw : Region.wanted o (yielded ops a.tmps) = true := by simp [Region.wanted, hgd]
 rw [if_pos hw]
 exact wp_append_any w s x t ho base e i z size bytes ht hi hz hsize hby hzs hsz v n xs hs hown B A m c news hx hr h1 h63 hbytes hbase h
end
theorem ownsRow_form {w : World} {base : Nat} {e : TypeId} {size n : Nat} {v : Value} {xs : List Value} (h : w.ownsRow base e size v n xs) :
 ∃ A c, v = .slice A n c ∧ n ≤ c ∧ c ≤ maxLen := by
 obtain ⟨_, h | ⟨g, cap, cur, hv, _, _, h1, h2, _⟩⟩ := h
 ·obtain ⟨rfl, rfl⟩ := h; exact ⟨none, 0, rfl, Nat.le_refl _, by unfold maxLen; omega⟩
 ·exact ⟨_, cap, hv, h1, h2⟩
def ReadS (w : World) (B : Nat) (A : Option Addr) (n : Nat) (ss : List ByteArray) : Prop := Reads w B 1 A n (ss.map Value.string)
theorem ReadS.len {w : World} {B n : Nat} {A : Option Addr} {ss : List ByteArray} (h : ReadS w B A n ss) : ss.length = n := by
 have := h.1; simpa using this
theorem ReadS.at_ {w : World} {B n k : Nat} {A : Option Addr} {ss : List ByteArray} (h : ReadS w B A n ss) (hk : k < ss.length) :
 ∃ ad, A = some ad ∧ ad.block < B ∧ w.cell? (ad.add k) = some (.string ss[k]) := by
 obtain ⟨ad, u, h1, h2, h3, h4⟩ := Reads.at_ (k := k) h (by have := h.len; omega)
 rw [List.getElem?_map, List.getElem?_eq_getElem hk] at h3
 simp only [Option.map_some, Option.some.injEq] at h3
 subst h3
 exact ⟨ad, h1, h2, h4⟩
open Go.ChangeAt Go.ChangeShapes Go.WideShapes
section
variable {H : Type} {enc : TypeId × Value → H} {P : Program}
theorem trodAll_stays (hl : laidOutB P = true) {W W' : World} {sp' : Nat → Bool} : ∀ {ts : List TypeId} {vs : List Value} {ds : List (DataW H)} {ps : List MemPlace},
 ts.all (fun t => P.readableRec t && decide (t < P.types.size)) = true → DataW.TrodAll enc P W 0 (fun _ => true) true ts vs ds ps → (∀ p ∈ ps, W.sameAt W' p) → (∀ p ∈ ps, sp' p.block = true) → DataW.TrodAll enc P W' 0 sp' true ts vs ds ps := by
 intro ts
 induction ts with
 | nil => intro vs ds ps _ h _ _; obtain ⟨rfl, rfl, rfl⟩ := trodAll_nil h; exact trodAll_mk0
 | cons t ts ih =>
   intro vs ds ps ht h hs hsp
   obtain ⟨v, vs', d, ds', p, q, rfl, rfl, rfl, h1, h2⟩ := trodAll_cons h
   simp only [List.all_cons, Bool.and_eq_true, decide_eq_true_eq] at ht
   exact trodAll_cons_mk (WideElems.Trod_stays hl ht.1.1 ht.1.2 h1 (fun x hx => hs x (List.mem_append_left _ hx)) (fun x hx => hsp x (List.mem_append_left _ hx)))
    (ih ht.2 h2 (fun x hx => hs x (List.mem_append_right _ hx)) (fun x hx => hsp x (List.mem_append_right _ hx)))
theorem law_post {f : Func} {s : ChangeSpec} {apart fresh handsOn again : Bool} {W W' : World} {args : Array Value} {ds gs : List (DataW H)} {before : List MemPlace} {tb : TypeId}
 (hl : laidOutB P = true) (hts : f.params.toList.all (fun t => P.readableRec t && decide (t < P.types.size)) = true) (hr : f.resultTypes = #[tb]) (hu : P.underlying tb = some .bool) (hv : s.vars = [])
 (hf : s.fn H (ds ++ gs) = { results := [.lit (.bool true)], args := ds }) (hW : DataW.Whole enc P f.params.toList s.vars apart W args.toList ds gs before) (hb : Below W.heap.size W W') :
 s.post enc P f apart fresh handsOn again W args (.bool true) W' := by
 have hlt : ∀ p ∈ before, p.block < W.heap.size := fun p hp => hW.lt p hp
 have hold : ∀ p ∈ before, (fun b => decide (b < W.heap.size)) p.block = true := fun p hp => by simpa using hlt p hp
 have hres : ∀ (b : Nat) (sp : Nat → Bool) (hd : Bool), DataW.TrodAll enc P W' b sp hd f.resultTypes.toList ((Value.bool true).resultList f.resultTypes.size) (s.fn H (ds ++ gs)).results [] := by
  intro b sp hd
  rw [hf, hr]
  exact trodAll_mk1 (shut_bool hu _)
 have hok : ∀ (j : Nat) (t : TypeId) (r : Value), f.resultTypes[j]? = some t → ((Value.bool true).resultList f.resultTypes.size)[j]? = some r → Value.okWide P W' .any 0 t r := ok_one hr rfl (okWide_bool_mk hu _)
 have hW' := hW
 obtain ⟨p, q, hA, hV, rfl, hz, hn⟩ := hW
 rw [hv] at hV
 obtain ⟨rfl, rfl⟩ := trodVars_none hV
 have hargs : ∀ sp : Nat → Bool, (∀ x ∈ p ++ [], sp x.block = true) → DataW.TrodAll enc P W' 0 sp true f.params.toList args.toList (s.fn H (ds ++ [])).args p := by
  intro sp hsp
  rw [hf]
  exact trodAll_stays hl hts hA (fun x hx => hb.same (hlt x (by simp [hx]))) (fun x hx => hsp x (by simp [hx]))
 have hvars : ∀ sp : Nat → Bool, (∀ x ∈ p ++ [], sp x.block = true) → DataW.TrodVars enc P W' sp s.vars (s.fn H (ds ++ [])).vars [] := by
  intro sp _
  rw [hf, hv]; rfl
 refine ⟨ds, [], p ++ [], [], p, [], hW', hres _ _ _, hargs _ hold, hvars _ hold, World.keptBut_mono (fun x hx => ⟨hx, .inr (by simpa using hx)⟩) (hb.frame (· ∈ p ++ [])), fun _ => ?_⟩
 refine ⟨hok, _, _, ([] ++ p) ++ [], ⟨[] ++ p, [], trodAll_append (hargs _ (fun _ _ => rfl)) (hres _ _ _), hvars _ (fun _ _ => rfl), rfl, ?_, ?_⟩, ?_⟩
 ·intro b off hp
  have hin : MemPlace.cell b off ∈ p ++ [] := by simpa using hp
  rw [hb.frozen (hlt _ hin)]
  exact hz b off hin
 ·intro ha
  simpa using hn ha
 ·intro x hp _
  simpa using hp
theorem lt_cell {w : World} {a : Addr} {v : Value} (h : w.cell? a = some v) : a.block < w.heap.size := by
 rcases Nat.lt_or_ge a.block w.heap.size with h' | h'
 ·exact h'
 ·rw [World.cell?, Array.getElem?_eq_none h'] at h; cases h
end
def ReadB (w : World) (B : Nat) (A : Option Addr) (n : Nat) (xs : List UInt8) : Prop := Reads w B 1 A n (xs.map fun b => Value.int .u8 b.toNat)
theorem ReadB.len {w : World} {B n : Nat} {A : Option Addr} {xs : List UInt8} (h : ReadB w B A n xs) : xs.length = n := by
 have := h.1; simpa using this
theorem ReadB.at_ {w : World} {B n k : Nat} {A : Option Addr} {xs : List UInt8} (h : ReadB w B A n xs) (hk : k < xs.length) :
 ∃ ad, A = some ad ∧ ad.block < B ∧ w.cell? (ad.add k) = some (.int .u8 xs[k].toNat) := by
 obtain ⟨ad, u, h1, h2, h3, h4⟩ := Reads.at_ (k := k) h (by have := h.len; omega)
 rw [List.getElem?_map, List.getElem?_eq_getElem hk] at h3
 simp only [Option.map_some, Option.some.injEq] at h3
 subst h3
 exact ⟨ad, h1, h2, h4⟩
section
variable {H : Type} {enc : TypeId × Value → H} {P : Program}
theorem of_wf_u8 {z : Int} (h : (Lit.int .u8 z).wf = true) : 0 ≤ z ∧ z < 256 := by
 simp only [Lit.wf, Bool.and_eq_true, decide_eq_true_eq] at h
 have h1 : IntKind.u8.min = 0 := rfl
 have h2 : IntKind.u8.max = 255 := rfl
 rw [h1, h2] at h; omega
theorem open_bs {t e : TypeId} {W : World} {base : Nat} {v : Value} {d : DataW H} {ps : List MemPlace} (ht : P.underlying t = some (.slice e)) (he : P.underlying e = some (.int .u8)) (hc : P.cellsOf e = 1) (hval : Value.okWide P W .any base t v)
 (h : DataW.Trod enc P W 0 (fun _ => true) true t v d ps) :
 ∃ A n c xs, v = .slice A n c ∧ ReadB W W.heap.size A n xs ∧ n ≤ c ∧ c ≤ maxLen := by
 obtain ⟨A, n, c, rfl⟩ := okWide_slice ht hval
 obtain ⟨fuel, hf⟩ := h
 rcases open_ints ht he hc hf with ⟨hcs, hx⟩ | ⟨a, len, cap, zs, hcs, _, hl, hm, hlen, hx, hcell, hsz⟩
 ·simp [Value.cells] at hcs
  obtain ⟨rfl, rfl, rfl⟩ := hcs
  exact ⟨none, 0, 0, [], rfl, Reads.none_, by omega, by unfold maxLen; omega⟩
 ·simp [Value.cells] at hcs
  obtain ⟨rfl, rfl, rfl⟩ := hcs
  simp only [if_true] at hlen
  have hval2 : ∀ j (hj : j < n), W.cell? (a.add j) = some (.int .u8 ((UInt8.ofNat (zs.getD j 0).toNat).toNat : Nat)) := by
   intro j hj
   rw [hcell j (by omega)]
   have hmem : zs.getD j 0 ∈ zs := by
    rw [List.getD, List.getElem?_eq_getElem (show j < zs.length by omega)]; exact List.getElem_mem _
   have := of_wf_u8 (hsz _ hmem)
   rw [UInt8.toNat_ofNat', Nat.mod_eq_of_lt (by omega)]
   congr 2; omega
  refine ⟨some a, n, c, (zs.take n).map (fun z => UInt8.ofNat z.toNat), rfl, ⟨by simp; omega, fun hn => ⟨a, rfl, ?_, fun j u hu => ?_⟩⟩, hl, hm⟩
  ·have := lt_cell (hval2 0 hn)
   rwa [block_of_add] at this
  ·rw [List.map_map, List.getElem?_map] at hu
   obtain ⟨z, hz, rfl⟩ := Option.map_eq_some_iff.1 hu
   have hj : j < n := by have := (List.getElem?_eq_some_iff.1 hz).1; simp at this; omega
   rw [hval2 j hj]
   rw [List.getElem?_take, if_pos hj] at hz
   rw [List.getD, hz]; rfl
end
theorem own : ownKnob Tryz.prog.godebug = none := by kernel_rfl
theorem laidOut : laidOutB Tryz.prog = true := by kernel_rfl
def flat1 : DataW Unit → List Value
 | .lit (.int k n) => [.int k n]
 | _ => []
def flat2 : DataW Unit → List Value
 | .agg ps => ps.flatMap fun
   | .agg qs => qs.flatMap flat1
   | d => flat1 d
 | _ => []
def putTab (t : DataW Unit) : Obj → Obj
 | .cells _ ty fr => .cells (flat2 t).toArray ty fr
 | o => o
noncomputable def laidWorld (os : Os) (b1 b2 : Nat) (t1 t2 : DataW Unit) : World :=
 { World.holding Tryz.prog os ⟨#[], #[], []⟩ with heap := ((World.holding Tryz.prog os ⟨#[], #[], []⟩).heap.modify b1 (putTab t1)).modify b2 (putTab t2) }
noncomputable abbrev world43 (os : Os) : World := laidWorld os 1 0 Rows.laid_unicode_utf8_acceptRanges Rows.laid_unicode_utf8_first
theorem laid_met (os : Os) (args : Array Value) : laidMet Tryz.prog [("unicode/utf8.acceptRanges", Rows.laid_unicode_utf8_acceptRanges), ("unicode/utf8.first", Rows.laid_unicode_utf8_first)] ((world43 os).forCall (fun _ _ => 0) ⟨#[], args, []⟩).memory :=
 laidMet_of_run3 8 (by kernel_rfl) (by kernel_rfl) (by kernel_rfl)
theorem world_vars (os : Os) (args : Array Value) : ((world43 os).forCall (fun _ _ => 0) ⟨#[], args, []⟩).variablesB Tryz.prog = true := by kernel_rfl
theorem world_rest (os : Os) (args : Array Value) : (((world43 os).forCall (fun _ _ => 0) ⟨#[], args, []⟩).heap.toList.drop Tryz.prog.globals.size).take ((begin Tryz.prog (fun _ _ => 0) default).world.heap.size - Tryz.prog.globals.size) =
 (begin Tryz.prog (fun _ _ => 0) default).world.heap.toList.drop Tryz.prog.globals.size := by kernel_rfl
end Go.Proofs.YtmepaeahchiglaaGreatDoor
namespace Go.Proofs.YtmepaeahchiglaaGreatDoor
open Go.RowKit
section
variable {α : Type} [Inhabited α]
omit [Inhabited α] in
theorem flatMap_len (f : α → List Value) (k : Nat) (hk : ∀ x, (f x).length = k) (l : List α) : (l.flatMap f).length = l.length * k := by
 induction l with
 | nil => simp
 | cons x l ih => rw [List.flatMap_cons, List.length_append, hk, ih, List.length_cons, Nat.add_mul, Nat.one_mul, Nat.add_comm]
theorem flatMap_get (f : α → List Value) (k : Nat) (hk : ∀ x, (f x).length = k) (l : List α) : ∀ t, t < l.length * k → (l.flatMap f)[t]? = some ((f l[t / k]!)[t % k]!) := by
 induction l with
 | nil => intro t h; simp at h
 | cons x l ih =>
   intro t h
   rw [List.length_cons, Nat.add_mul, Nat.one_mul] at h
   have k0 : 0 < k := by
    rcases Nat.eq_zero_or_pos k with e | e
    ·subst e; simp at h
    ·exact e
   rw [List.flatMap_cons]
   rcases Nat.lt_or_ge t k with ht | ht
   ·rw [List.getElem?_append_left (by rw [hk]; exact ht), Nat.div_eq_of_lt ht, Nat.mod_eq_of_lt ht]
    simp [getElem!_pos, hk, ht]
   ·rw [List.getElem?_append_right (by rw [hk]; exact ht), hk, ih (t - k) (by omega)]
    have e1 : t / k = (t - k) / k + 1 := by
     conv => lhs; rw [show t = (t - k) + k by omega]
     rw [Nat.add_div_right _ k0]
    have e2 : t % k = (t - k) % k := by
     conv => lhs; rw [show t = (t - k) + k by omega]
     rw [Nat.add_mod_right]
    rw [e1, e2]
    simp
end
end Go.Proofs.YtmepaeahchiglaaGreatDoor
namespace Go.Proofs.YtmepaeahchiglaaGreatDoor
def numK : Nat → Nat → List Nat
 | 0, _ => []
 | k + 1, n => if n < 128 then [n] else (n % 128 + 128) :: numK k (n / 128)
def numB (n : Nat) : List Nat := numK 5 n
def readK : Nat → Nat → Nat → List Nat → Option (Nat × List Nat)
 | 0, _, _, _ => none
 | _ + 1, _, _, [] => none
 | k + 1, i, acc, c :: l =>
   if 128 ≤ c then readK k (i + 1) (acc + 128 ^ i * (c % 128)) l
   else if (c = 0 ∧ 0 < i) ∨ 4294967296 ≤ acc + 128 ^ i * c then none else some (acc + 128 ^ i * c, l)
def readN (l : List Nat) : Option (Nat × List Nat) := readK 5 0 0 l
theorem numB_step {k n : Nat} (h : ¬ n < 128) : numK (k + 1) n = (n % 128 + 128) :: numK k (n / 128) := by
 conv => lhs; unfold numK
 rw [if_neg h]
theorem numB_last {k n : Nat} (h : n < 128) : numK (k + 1) n = [n] := by
 conv => lhs; unfold numK
 rw [if_pos h]
theorem num_read : ∀ (k i acc : Nat) (b : List Nat) (t : Nat) (l : List Nat), (∀ c ∈ b, c < 256) → readK k i acc b = some (t, l) → ∃ n, t = acc + 128 ^ i * n ∧ b = numK k n ++ l ∧ n < 128 ^ k ∧ (0 < i → 0 < n) ∧ t < 4294967296 := by
 intro k
 induction k with
 | zero => intro i acc b t l _ h; cases h
 | succ k ih =>
   intro i acc b t l hb h
   cases b with
   | nil => cases h
   | cons c b =>
     have hc := hb c (List.mem_cons_self ..)
     replace h : (if 128 ≤ c then readK k (i + 1) (acc + 128 ^ i * (c % 128)) b else if (c = 0 ∧ 0 < i) ∨ 4294967296 ≤ acc + 128 ^ i * c then none else some (acc + 128 ^ i * c, b)) = some (t, l) := h
     by_cases h1 : 128 ≤ c
     ·rw [if_pos h1] at h
      obtain ⟨n, h2, h3, h4, h5, h6⟩ := ih _ _ _ _ _ (fun x hx => hb x (List.mem_cons_of_mem _ hx)) h
      have hn := h5 (by omega)
      refine ⟨c % 128 + 128 * n, ?_, ?_, ?_, fun _ => by omega, h6⟩
      ·rw [h2, Nat.mul_add, Nat.pow_succ, Nat.mul_assoc]; omega
      ·rw [numB_step (by omega), show (c % 128 + 128 * n) % 128 + 128 = c by omega, show (c % 128 + 128 * n) / 128 = n by omega, h3]; rfl
      ·rw [Nat.pow_succ]; omega
     ·rw [if_neg h1] at h
      by_cases h2 : (c = 0 ∧ 0 < i) ∨ 4294967296 ≤ acc + 128 ^ i * c
      ·rw [if_pos h2] at h; cases h
      ·rw [if_neg h2] at h
       injection h with h
       obtain ⟨rfl, rfl⟩ := Prod.mk.inj h
       refine ⟨c, rfl, by rw [numB_last (by omega)]; rfl, ?_, fun hi => ?_, by omega⟩
       ·have : 128 ^ 1 ≤ 128 ^ (k + 1) := Nat.pow_le_pow_right (by decide) (by omega)
        omega
       ·rcases Nat.eq_zero_or_pos c with e | e
        ·exact absurd (.inl ⟨e, hi⟩) h2
        ·exact e
theorem readN_bytes {b l : List Nat} {n : Nat} (hb : ∀ c ∈ b, c < 256) (h : readN b = some (n, l)) : b = numB n ++ l ∧ n < 4294967296 := by
 obtain ⟨m, h1, h2, _, _, h5⟩ := num_read 5 0 0 b n l hb h
 have : n = m := by simpa using h1
 subst this
 exact ⟨h2, h5⟩
abbrev Rdr (α : Type) := List Nat → Option (α × List Nat)
def Canon {α : Type} (P : α → Prop) (put : α → List Nat) (get : Rdr α) : Prop := ∀ b x r, (∀ c ∈ b, c < 256) → get b = some (x, r) → b = put x ++ r ∧ P x
def is32 (n : Nat) : Prop := n < 4294967296
theorem canon_num : Canon is32 numB readN := fun _ _ _ hb h => readN_bytes hb h
def thenR {α β : Type} (g : Rdr α) (h : α → Rdr β) : Rdr β := fun b => match g b with
 | some (x, r) => h x r
 | none => none
theorem thenR_some {α β : Type} {g : Rdr α} {f : α → Rdr β} {b r : List Nat} {x : α} (h : g b = some (x, r)) : thenR g f b = f x r := by unfold thenR; rw [h]
theorem thenR_none {α β : Type} {g : Rdr α} {f : α → Rdr β} {b : List Nat} (h : g b = none) : thenR g f b = none := by unfold thenR; rw [h]
theorem thenR_out {α β : Type} {g : Rdr α} {f : α → Rdr β} {b t : List Nat} {y : β} (h : thenR g f b = some (y, t)) : ∃ x r, g b = some (x, r) ∧ f x r = some (y, t) := by
 cases hg : g b with
 | none => rw [thenR_none hg] at h; cases h
 | some q => exact ⟨q.1, q.2, rfl, by rw [thenR_some hg] at h; exact h⟩
section
variable {α β : Type} {P : α → Prop} {Q : α → β → Prop} {put : α → List Nat} {get : Rdr α} {put2 : α → β → List Nat} {get2 : α → Rdr β}
def pairB (put : α → List Nat) (put2 : α → β → List Nat) (x : α × β) : List Nat := put x.1 ++ put2 x.1 x.2
def pairR (get : Rdr α) (get2 : α → Rdr β) : Rdr (α × β) := thenR get fun a => thenR (get2 a) fun b r => some ((a, b), r)
theorem canon_pair (h1 : Canon P put get) (h2 : ∀ a, P a → Canon (Q a) (put2 a) (get2 a)) : Canon (fun x : α × β => P x.1 ∧ Q x.1 x.2) (pairB put put2) (pairR get get2) := by
 rintro b ⟨x, y⟩ r hb h
 unfold pairR at h
 obtain ⟨a, s, h1e, h⟩ := thenR_out h
 obtain ⟨e1, pa⟩ := h1 b a s hb h1e
 obtain ⟨z, t, h2e, h⟩ := thenR_out h
 simp only [Option.some.injEq, Prod.mk.injEq] at h
 obtain ⟨⟨rfl, rfl⟩, rfl⟩ := h
 obtain ⟨e2, pb⟩ := h2 a pa s z t (fun c hc => hb c (by rw [e1]; simp [hc])) h2e
 exact ⟨by rw [e1, e2]; show _ = put a ++ put2 a z ++ t; rw [List.append_assoc], pa, pb⟩
end
section
variable {α : Type} {P : α → Prop} {put : α → List Nat} {get : Rdr α}
def manyR (get : Rdr α) : Nat → Rdr (List α)
 | 0 => fun b => some ([], b)
 | n + 1 => thenR get fun x => thenR (manyR get n) fun l r => some (x :: l, r)
def countR : Rdr Nat := thenR readN fun n r => if n ≤ r.length then some (n, r) else none
def someR (get : Rdr α) : Rdr (List α) := thenR countR fun n => manyR get n
def allB (put : α → List Nat) (l : List α) : List Nat := numB l.length ++ l.flatMap put
theorem many_canon (h : Canon P put get) : ∀ (n : Nat) (b : List Nat) (l : List α) (r : List Nat), (∀ c ∈ b, c < 256) → manyR get n b = some (l, r) → b = l.flatMap put ++ r ∧ l.length = n ∧ ∀ x ∈ l, P x
 | 0, b, l, r, _, e => by
   injection e with e
   obtain ⟨rfl, rfl⟩ := Prod.mk.inj e
   exact ⟨rfl, rfl, fun x hx => by cases hx⟩
 | n + 1, b, l, r, hb, e => by
   obtain ⟨x, s, h1, e⟩ := thenR_out (show thenR get (fun x => thenR (manyR get n) fun l r => some (x :: l, r)) b = some (l, r) from e)
   obtain ⟨e1, px⟩ := h b x s hb h1
   obtain ⟨l', t, h2, e⟩ := thenR_out e
   simp only [Option.some.injEq, Prod.mk.injEq] at e
   obtain ⟨rfl, rfl⟩ := e
   obtain ⟨e2, hl, hp⟩ := many_canon h n s l' t (fun c hc => hb c (by rw [e1]; simp [hc])) h2
   refine ⟨by rw [e1, e2, List.flatMap_cons, List.append_assoc], by rw [List.length_cons, hl], fun y hy => ?_⟩
   rcases List.mem_cons.1 hy with rfl | hy
   ·exact px
   ·exact hp y hy
theorem canon_all (h : Canon P put get) : Canon (fun l : List α => is32 l.length ∧ ∀ x ∈ l, P x) (allB put) (someR get) := by
 intro b l r hb e
 unfold someR at e
 obtain ⟨n, s, h1, e⟩ := thenR_out e
 unfold countR at h1
 obtain ⟨n', s', h2, h3⟩ := thenR_out h1
 obtain ⟨e1, hn⟩ := readN_bytes hb h2
 by_cases hle : n' ≤ s'.length
 ·rw [if_pos hle] at h3
  injection h3 with h3
  obtain ⟨rfl, rfl⟩ := Prod.mk.inj h3
  obtain ⟨e2, hl, hp⟩ := many_canon h n' s' l r (fun c hc => hb c (by rw [e1]; simp [hc])) e
  subst hl
  exact ⟨by rw [e1, e2]; show _ = numB l.length ++ l.flatMap put ++ r; rw [List.append_assoc], hn, hp⟩
 ·rw [if_neg hle] at h3; cases h3
end
abbrev Snd := Nat × Nat
def sndB : Snd → List Nat := pairB numB fun _ => numB
def sndR : Rdr Snd := pairR readN fun _ => readN
def ok32 (s : Snd) : Prop := is32 s.1 ∧ is32 s.2
theorem canon_snd : Canon ok32 sndB sndR := canon_pair canon_num fun _ _ => canon_num
def wordB : List Snd → List Nat := allB sndB
def wordR : Rdr (List Snd) := someR sndR
def okW (w : List Snd) : Prop := is32 w.length ∧ ∀ s ∈ w, ok32 s
theorem canon_word : Canon okW wordB wordR := canon_all canon_snd
open Go.RowKit
theorem region_tail {P : Program} {id : Nat} {Q : Exit → Act → World → Prop} {a : Act} {w : World} {l : List Oper} (n : Nat) (hm : P.follows .mixedOrders = true) (hB : Region.lexTailB .any l.toArray n = true)
 (h : wpStill P l.toArray w.drew (fun a' => wpList P l.toArray Q (l.drop n) a' w.drew) (l.take n) a) : (Code.region id l.toArray true).wp P Q a w := wp_region_still_tail n hm hB h
theorem add_at (b j : Nat) : (⟨b, 0, none⟩ : Addr).add j = ⟨b, j, none⟩ := by unfold Addr.add; split <;> simp_all
theorem reads_new (w : World) (t : TypeId) (cs : List Value) : Reads (w.alloc (.cells cs.toArray t)) (w.heap.size + 1) 1 (some ⟨w.heap.size, 0, none⟩) cs.length cs := by
 refine ⟨by simp, fun _ => ⟨_, rfl, by simp, fun j u hu => ?_⟩⟩
 rw [add_at, (Blk.new w t cs.toArray).cell j]
 simpa using hu
open Go.Lib
abbrev bv (b : Nat) : Value := .int .u8 b
def CAP : Nat := 140737488351232
def Wr (w : World) (base g : Nat) (xs : List Nat) : Prop :=
 ∃ v, Blk w g 92 #[v] ∧ base ≤ g ∧ w.ownsRow base 5 1 v xs.length (xs.map bv)
def rowOf (w : World) (g : Nat) : Option Nat := (w.cell? ⟨g, 0, none⟩).bind Value.ownBlock
structure WStep (g : Nat) (w w' : World) : Prop where
 os : w'.os = w.os
 tape : w'.tape = w.tape
 output : w'.output = w.output
 size : w.heap.size ≤ w'.heap.size
 block : ∀ k, k < w.heap.size → k ≠ g → rowOf w g ≠ some k → w'.heap[k]? = w.heap[k]?
 row : rowOf w' g = rowOf w g ∨ ∃ k, rowOf w' g = some k ∧ w.heap.size ≤ k
theorem WStep.refl (g : Nat) (w : World) : WStep g w w := ⟨rfl, rfl, rfl, Nat.le_refl _, fun _ _ _ _ => rfl, .inl rfl⟩
theorem WStep.trans {g : Nat} {a b c : World} (h : WStep g a b) (k : WStep g b c) : WStep g a c := by
 refine ⟨k.os.trans h.os, k.tape.trans h.tape, k.output.trans h.output, Nat.le_trans h.size k.size, fun i hi hg hr => ?_, ?_⟩
 ·refine (k.block i (Nat.lt_of_lt_of_le hi h.size) hg ?_).trans (h.block i hi hg hr)
  rcases h.row with e | ⟨j, e, hj⟩
  ·rw [e]; exact hr
  ·rw [e]; intro e'; injection e' with e'; omega
 ·rcases k.row with e | ⟨j, e, hj⟩
  ·rw [e]
   rcases h.row with e | ⟨j, e, hj⟩
   ·exact .inl e
   ·exact .inr ⟨j, e, hj⟩
  ·exact .inr ⟨j, e, Nat.le_trans h.size hj⟩
theorem WStep.alloc {g : Nat} {a w : World} (h : WStep g a w) (hg : g < w.heap.size) (o : Obj) : WStep g a (w.alloc o) := by
 refine h.trans ⟨rfl, rfl, rfl, by simp, fun k hk _ _ => Below.heap_alloc _ _ _ hk, .inl ?_⟩
 unfold rowOf
 rw [World.cell?_alloc_lt w o ⟨g, 0, none⟩ hg]
theorem Wr.rowOf_ {w : World} {base g : Nat} {xs : List Nat} (h : Wr w base g xs) : ∀ k, rowOf w g = some k → base ≤ k ∧ k < w.heap.size := by
 obtain ⟨v, h1, h2, h3⟩ := h
 intro k hk
 unfold rowOf at hk
 rw [h1.cell 0] at hk
 exact h3.lt k (by simpa using hk)
theorem Wr.lt {w : World} {base g : Nat} {xs : List Nat} (h : Wr w base g xs) : g < w.heap.size := by
 obtain ⟨v, h1, _⟩ := h; exact h1.lt
theorem Wr.base_le {w : World} {base g : Nat} {xs : List Nat} (h : Wr w base g xs) : base ≤ g := by
 obtain ⟨v, _, h, _⟩ := h; exact h
theorem Wr.alloc {w : World} {base g : Nat} {xs : List Nat} (h : Wr w base g xs) (o : Obj) : Wr (w.alloc o) base g xs := by
 obtain ⟨v, h1, h2, h3⟩ := h
 exact ⟨v, h1.alloc o, h2, h3.alloc o⟩
theorem WStep.below {w w' : World} {base g : Nat} {xs : List Nat} (h : WStep g w w') (hw : Wr w base g xs) : Below base w w' :=
 ⟨h.os, h.tape, h.output, h.size, fun k hk => by
   have := hw.base_le
   have := hw.lt
   exact h.block k (by omega) (by omega) (fun e => by have := hw.rowOf_ k e; omega)⟩
theorem WStep.blk {w w' : World} {base g k : Nat} {t : TypeId} {cs : Array Value} {xs : List Nat} (h : WStep g w w') (hw : Wr w base g xs) (hk : Blk w k t cs) (h1 : t ≠ 5) (h2 : k ≠ g) : Blk w' k t cs := by
 refine (h.block k hk.lt h2 ?_).trans hk
 obtain ⟨v, b1, b2, b3⟩ := hw
 have hn := own_blk_ne b3 hk (Ne.symm h1)
 unfold rowOf
 rw [b1.cell 0]
 simpa using hn
theorem WStep.reads {w w' : World} {base g B size n : Nat} {A : Option Addr} {ys : List Value} {xs : List Nat} (h : WStep g w w') (hw : Wr w base g xs) (hr : Reads w B size A n ys) (hB : B ≤ base) : Reads w' B size A n ys :=
 hr.below ((h.below hw).mono hB)
theorem wr_append {w w1 w2 : World} {base g : Nat} {xs ys : List Nat} {v v' : Value} (h : Wr w base g xs) (hv : w.cell? ⟨g, 0, none⟩ = some v) (hs : WStep g w w1) (hr : rowOf w1 g = v.ownBlock) (h2 : w2.ownsRow base 5 1 v' (xs.length + ys.length) (xs.map bv ++ ys.map bv)) (h3 : w1.grownBy w2 v.ownBlock)
 (h4 : v'.ownBlock = v.ownBlock ∨ v'.ownBlock = some w1.heap.size) (h5 : w1.heap[g]? = w.heap[g]?) : Wr (w2.setCell ⟨g, 0, none⟩ v') base g (xs ++ ys) ∧ WStep g w (w2.setCell ⟨g, 0, none⟩ v') := by
 obtain ⟨u, b1, b2, b3⟩ := h
 have e : u = v := by
  have := b1.cell 0
  rw [hv] at this
  simpa using this.symm
 subst e
 have hgl := b1.lt
 have hne : u.ownBlock ≠ some g := own_blk_ne b3 b1 (by decide)
 have hB1 : Blk w1 g 92 #[u] := h5.trans b1
 have hB2 : Blk w2 g 92 #[u] := (h3.block g hB1.lt (fun e => hne e.symm)).trans hB1
 have hne' : v'.ownBlock ≠ some g := own_blk_ne h2 hB2 (by decide)
 have hset : Blk (w2.setCell ⟨g, 0, none⟩ v') g 92 #[v'] := by simpa using hB2.set_ 0 v'
 have hrow : rowOf (w2.setCell ⟨g, 0, none⟩ v') g = v'.ownBlock := by unfold rowOf; rw [hset.cell 0]; rfl
 have hrow0 : rowOf w g = u.ownBlock := by unfold rowOf; rw [hv]; rfl
 refine ⟨⟨v', hset, b2, ?_⟩, ?_⟩
 ·rw [List.length_append, List.map_append]
  exact h2.kept (row := some g) ⟨rfl, rfl, rfl, by simp [World.setCell], fun i hi hne => Below.heap_setCell _ _ _ _ (by simpa using hne)⟩ (.inr hne')
 ·refine hs.trans ⟨h3.os, h3.tape, h3.output, by have := h3.size; simpa [World.setCell] using this, fun k hk hg hr' => ?_, ?_⟩
  ·rw [Below.heap_setCell _ _ _ _ hg]
   exact h3.block k hk (fun e => hr' (by rw [hr]; exact e.symm))
  ·rw [hrow, hr]
   rcases h4 with h | h
   ·exact .inl h
   ·exact .inr ⟨_, h, Nat.le_refl _⟩
theorem wr_one {w w2 : World} {base g : Nat} {xs ys : List Nat} {v v' : Value} {o : Obj} (h : Wr w base g xs) (hv : w.cell? ⟨g, 0, none⟩ = some v) (h2 : w2.ownsRow base 5 1 v' (xs.length + ys.length) (xs.map bv ++ ys.map bv)) (h3 : (w.alloc o).grownBy w2 v.ownBlock)
 (h4 : v'.ownBlock = v.ownBlock ∨ v'.ownBlock = some (w.alloc o).heap.size) : Wr (w2.setCell ⟨g, 0, none⟩ v') base g (xs ++ ys) ∧ WStep g w (w2.setCell ⟨g, 0, none⟩ v') := by
 refine wr_append h hv ((WStep.refl g w).alloc h.lt o) ?_ h2 h3 h4 (Below.heap_alloc _ _ _ h.lt)
 unfold rowOf
 rw [World.cell?_alloc_lt w o ⟨g, 0, none⟩ h.lt, hv]; rfl
theorem low7 {n : Nat} : bits .or .u8 ((n : Int) % 256) 128 = ((n % 128 + 128 : Nat) : Int) := by
 have h := u8_or_nat (n % 256) 128 (by omega) (by decide)
 have e : (n % 256) ||| 128 = n % 128 + 128 := by
  have h2 : ∀ m : Fin 256, m.val ||| 128 = m.val % 128 + 128 := by decide +kernel
  rw [h2 ⟨n % 256, by omega⟩]; simp only []; omega
 rw [e] at h
 rw [← h]; congr 1
end Go.Proofs.YtmepaeahchiglaaGreatDoor
