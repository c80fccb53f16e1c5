/-
  layer 39: rows of texts with their keys in memory; slices.SortFunc over them by 'before'. Conditions: keys of at most maxLen elements.
-/
import Derived.Test.YtcdpadggjkobjaaGreatDoorSortP
import Derived.Test.YtcdpadggjkobjaaGreatDoorRowK
import Derived.Test.YtcdpadggjkobjaaGreatDoorShelf3
import Derived.Test.YtcdpadggjkobjaaGreatDoorTwo
namespace Go.Proofs.YtcdpadggjkobjaaGreatDoor
open Go.RowKit Go.Lib Go.Sort

/-- A text with its key, as it lies in memory. -/
structure EV where
  A : Option Addr
  n : Nat
  c : Nat
  key : List Int
  text : ByteArray
instance inhabEV : Inhabited EV := ⟨⟨none, 0, 0, [], ⟨#[]⟩⟩⟩
def EV.cells (e : EV) : List Value := [.slice e.A e.n e.c, .string e.text]
def EV.ent (e : EV) : Ent := (e.key, e.text)
theorem EV.len (e : EV) : e.cells.length = 2 := rfl
theorem EV.one (e : EV) : ∀ v ∈ e.cells, v.oneCell' = true := by intro v hv; simp [EV.cells] at hv; rcases hv with rfl | rfl <;> rfl
def cellsE (ds : List EV) : List Value := ds.flatMap EV.cells
def entE (ds : List EV) : List Ent := ds.map EV.ent
theorem cellsE_snoc (ds : List EV) (e : EV) : cellsE (ds ++ [e]) = cellsE ds ++ [.slice e.A e.n e.c, .string e.text] := by simp [cellsE, EV.cells]
theorem cellsE_len (ds : List EV) : (cellsE ds).length = ds.length * 2 := flatMap_len EV.cells 2 EV.len ds
theorem entE_snoc (ds : List EV) (e : EV) : entE (ds ++ [e]) = entE ds ++ [e.ent] := by simp [entE]
/-- A row of entries that the call owns, each with its key. -/
def OwnE (w : World) (base : Nat) (v : Value) (ds : List EV) : Prop :=
  w.ownsRow base 60 2 v ds.length (cellsE ds) ∧ ∀ e ∈ ds, w.ownsRow base 3 1 (.slice e.A e.n e.c) e.n (ints e.key) ∧ e.n ≤ maxLen
theorem OwnE.nil_ (w : World) (base : Nat) : OwnE w base (.slice none 0 0) [] := ⟨World.ownsRow_nil _ _ _ _, fun e he => by cases he⟩
theorem OwnE.below {w w' : World} {base : Nat} {v : Value} {ds : List EV} (h : OwnE w base v ds) (hb : Below w.heap.size w w') : OwnE w' base v ds :=
  ⟨own_below h.1 hb, fun e he => ⟨own_below (h.2 e he).1 hb, (h.2 e he).2⟩⟩
/-- Behind an append of one entry. -/
theorem OwnE.push {w w' : World} {base : Nat} {v v' : Value} {ds : List EV} (h : OwnE w base v ds) {e : EV} (he : w.ownsRow base 3 1 (.slice e.A e.n e.c) e.n (ints e.key)) (hn : e.n ≤ maxLen)
    (hg : w.grownBy w' v.ownBlock) (hown : w'.ownsRow base 60 2 v' (ds.length + 1) (cellsE ds ++ [.slice e.A e.n e.c, .string e.text])) : OwnE w' base v' (ds ++ [e]) := by
  refine ⟨by rw [cellsE_snoc]; simpa using hown, fun x hx => ?_⟩
  have hx' : w.ownsRow base 3 1 (.slice x.A x.n x.c) x.n (ints x.key) ∧ x.n ≤ maxLen := by
    rcases List.mem_append.1 hx with hx | hx
    · exact h.2 x hx
    · obtain rfl := List.mem_singleton.1 hx; exact ⟨he, hn⟩
  exact ⟨hx'.1.kept hg (own_own_ne hx'.1 h.1 (by decide)), hx'.2⟩
theorem addr_add (g j : Nat) : (⟨g, 0, none⟩ : Addr).add j = ⟨g, j, none⟩ := by unfold Addr.add; split <;> simp_all
/-- A row of entries that can be read. -/
def ReadE (w : World) (B : Nat) (A : Option Addr) (n : Nat) (ds : List EV) : Prop :=
  (Reads w B 2 A n (cellsE ds) ∧ (0 < n → ∃ g, A = some ⟨g, 0, none⟩)) ∧ ∀ e ∈ ds, ReadI w B e.A e.n e.key ∧ e.n ≤ maxLen
theorem ReadE.len {w : World} {B n : Nat} {A : Option Addr} {ds : List EV} (h : ReadE w B A n ds) : ds.length = n := by
  have := h.1.1.1; rw [cellsE_len] at this; omega
theorem ReadE.below {w w' : World} {B n : Nat} {A : Option Addr} {ds : List EV} (h : ReadE w B A n ds) (hb : Below B w w') : ReadE w' B A n ds :=
  ⟨⟨h.1.1.below hb, h.1.2⟩, fun e he => ⟨(h.2 e he).1.below hb, (h.2 e he).2⟩⟩
theorem ReadE.more {w : World} {B B' n : Nat} {A : Option Addr} {ds : List EV} (h : ReadE w B A n ds) (hB : B ≤ B') : ReadE w B' A n ds :=
  ⟨⟨h.1.1.more hB, h.1.2⟩, fun e he => ⟨(h.2 e he).1.more hB, (h.2 e he).2⟩⟩
theorem ReadE.at_ {w : World} {B n k : Nat} {A : Option Addr} {ds : List EV} (h : ReadE w B A n ds) (hk : k < ds.length) :
    ∃ g, A = some ⟨g, 0, none⟩ ∧ g < B ∧ w.cell? ⟨g, k * 2, none⟩ = some (.slice ds[k].A ds[k].n ds[k].c) ∧ w.cell? ⟨g, k * 2 + 1, none⟩ = some (.string ds[k].text) ∧ ReadI w B ds[k].A ds[k].n ds[k].key ∧ ds[k].n ≤ maxLen := by
  have hl := h.len
  obtain ⟨g, rfl⟩ := h.1.2 (by omega)
  obtain ⟨ad, e, hb, hc⟩ := h.1.1.2 (by omega)
  injection e with e
  subst e
  have g' := fun t ht => flatMap_get EV.cells 2 EV.len ds t ht
  have g0 := g' (k * 2) (by omega)
  have g1 := g' (k * 2 + 1) (by omega)
  rw [show k * 2 / 2 = k by omega, show k * 2 % 2 = 0 by omega] at g0
  rw [show (k * 2 + 1) / 2 = k by omega, show (k * 2 + 1) % 2 = 1 by omega] at g1
  rw [getElem!_pos ds k hk] at g0 g1
  have c0 := hc _ _ g0
  have c1 := hc _ _ g1
  rw [addr_add] at c0 c1
  exact ⟨g, rfl, hb, c0, c1, h.2 _ (List.getElem_mem hk)⟩

/-- What a comparison reads: a key away from a block. -/
def KeyAt (w : World) (blk : Nat) (e : EV) : Prop := e.n ≤ maxLen ∧ e.key.length = e.n ∧ (0 < e.n → ∃ ad, e.A = some ad ∧ ad.block ≠ blk ∧ ad.block < w.heap.size ∧ ∀ j u, (ints e.key)[j]? = some u → w.cell? (ad.add j) = some u)
theorem KeyAt.reads {w w' : World} {blk : Nat} {e : EV} (h : KeyAt w blk e) (hs : w.heap.size ≤ w'.heap.size) (hb : ∀ b, b < w.heap.size → b ≠ blk → w'.heap[b]? = w.heap[b]?) : ReadI w' w'.heap.size e.A e.n e.key := by
  obtain ⟨_, h2, h3⟩ := h
  refine ⟨by simp [h2], fun hn => ?_⟩
  obtain ⟨ad, e1, e2, e3, e4⟩ := h3 hn
  refine ⟨ad, e1, by omega, fun j u hu => ?_⟩
  rw [← e4 j u hu]
  exact World.cell?_of_block (hb _ (by rw [block_of_add]; exact e3) (by rw [block_of_add]; exact e2))
theorem keyAt_own {w : World} {base g n cap : Nat} {e : EV} {ds : List EV} (he : w.ownsRow base 3 1 (.slice e.A e.n e.c) e.n (ints e.key)) (hn : e.n ≤ maxLen)
    (hr : w.ownsRow base 60 2 (.slice (some ⟨g, 0, none⟩) n cap) n (cellsE ds)) : KeyAt w g e := by
  have hR := Reads.of_own he
  refine ⟨hn, by have := he.1; simpa using this, fun h0 => ?_⟩
  obtain ⟨ad, e1, e2, e3⟩ := hR.2 h0
  refine ⟨ad, e1, fun hne => ?_, e2, e3⟩
  rcases own_own_ne he hr (by decide) with h | h
  · obtain ⟨g', cap', hv, _⟩ := World.ownsRow.form he h0
    rw [hv] at h; simp [Value.ownBlock] at h
  · obtain ⟨g', cap', hv, _⟩ := World.ownsRow.form he h0
    have hv0 := hv
    injection hv with hv1
    rw [e1] at hv1
    injection hv1 with hv1
    subst hv1
    subst hne
    apply h
    rw [hv0]; simp [Value.ownBlock]
abbrev EVs (w : World) (blk : Nat) := {e : EV // KeyAt w blk e}
def encV {w : World} {blk : Nat} (x : EVs w blk) : List Value := x.1.cells
def befV {w : World} {blk : Nat} (x y : EVs w blk) : Int := befE x.1.ent y.1.ent
noncomputable instance inhabV (w : World) (blk : Nat) : Inhabited (EVs w blk) := ⟨⟨⟨none, 0, 0, [], ⟨#[]⟩⟩, by unfold maxLen; exact Nat.zero_le _, rfl, fun h => absurd h (Nat.lt_irrefl 0)⟩⟩
theorem swoV (w : World) (blk : Nat) : SWO (ltOf (befV (w := w) (blk := blk))) where
  irrefl x := by unfold ltOf befV; rw [befE_self]; rfl
  trans x y z h1 h2 := by
    unfold ltOf befV at *
    rw [decide_eq_true_iff] at *
    have a := befE_anti x.1.ent y.1.ent
    have b := befE_anti y.1.ent z.1.ent
    have c := befE_anti x.1.ent z.1.ent
    have t := befE_trans (x := x.1.ent) (y := y.1.ent) (z := z.1.ent) (by omega) (by omega)
    rcases Int.lt_or_eq_of_le t with h | h
    · exact h
    · have e := befE_zero h
      have t' := befE_anti y.1.ent z.1.ent
      rw [← e] at h2
      omega
  ntrans x y z h1 h2 := by
    unfold ltOf befV at *
    rw [decide_eq_false_iff_not] at *
    have a := befE_anti x.1.ent y.1.ent
    have b := befE_anti y.1.ent z.1.ent
    have c := befE_anti x.1.ent z.1.ent
    have t := befE_trans (x := z.1.ent) (y := y.1.ent) (z := x.1.ent) (by omega) (by omega)
    omega

set_option maxRecDepth 20000 in
set_option maxHeartbeats 2000000 in
/-- before, to the very world. -/
theorem before_grow (A B : Option Addr) (n m c d : Nat) (xs ys : List Int) (s t : ByteArray) (w : World) (hx : ReadI w w.heap.size A n xs) (hy : ReadI w w.heap.size B m ys) (hn : n ≤ maxLen) (hm : m ≤ maxLen) :
    Calls Tryz.prog 29 #[.agg #[.slice A n c, .string s], .agg #[.slice B m d, .string t]] w fun e w' => e = .returned (.int .i64 (beforeV xs ys s t)) ∧ ∃ q os', w' = grow (w.drewN q) os' := by
  have e1 := fun W (hb : Below w.heap.size w W) => (compareL_any A B n m c d xs ys W _ _ (hx.below hb) (hy.below hb) hn hm).mono (fun _ _ ⟨h1, h2⟩ => (⟨h1, h2.symm⟩ : _ ∧ _))
  have e2 := fun W => (Tryz.strings_Compare s t W)
  have E1 := Lib.hid e1; have E2 := Lib.hid e2; clear e1 e2 hx hy hn hm
  go_enter Tryz.func29, Tryz.ntmps29
  go_wp2
  refine region_tail 10 (by kernel_rfl) (by kernel_rfl) ?_
  simp only [List.take_succ_cons, List.take_zero, List.drop_succ_cons, List.drop_zero]
  still_step
  still_step
  still_step
  still_step
  still_call (E1.out _ (by exact (((Below.refl _ _).alloc (Nat.le_refl _) _).alloc (by simp) _).drew))
  still_step
  still_step
  still_step
  still_step
  still_call (E2.out _)
  refine wpStill_nil ?_
  go_wp2_with fail
  refine (orL_any _ 2 _ [cmpL xs ys, Lib.compareBytes s.data.toList t.data.toList] _ (w.heap.size + 3) ?hr (by unfold maxLen; omega)).mono ?_
  case hr => exact (by simpa using (reads_new ((w.alloc (.cells #[.slice A n c, .string s] 60)).alloc (.cells #[.slice B m d, .string t] 60)) 3 [.int .i64 (cmpL xs ys), .int .i64 (Lib.compareBytes s.data.toList t.data.toList)]) : Reads _ _ _ _ _ _).drew
  rintro e w' ⟨rfl, rfl⟩
  go_wp2
  go_ret
  exact ⟨rfl, 1, _, by rw [alloc_eq_grow, alloc_eq_grow, alloc_eq_grow, grow_grow, grow_grow]; rfl⟩

theorem cmpLaysV (w : World) (blk off size : Nat) : CmpLays Tryz.prog 29 #[] (encV (w := w) (blk := blk)) 2 befV blk off size w := by
  intro m os dk _ x y
  have hs := size_sortWorldK_c (encV (w := w) (blk := blk)) 2 w blk off m dk os
  have hb := fun b h1 h2 => block_sortWorldK (encV (w := w) (blk := blk)) 2 w blk off m dk os (b := b) h1 h2
  exact before_grow x.1.A y.1.A x.1.n y.1.n x.1.c y.1.c x.1.key y.1.key x.1.text y.1.text _ (x.2.reads hs hb) (y.2.reads hs hb) x.2.1 y.2.1

theorem sortFunc_at {α : Type} [Inhabited α] (enc : α → List Value) (hk : ∀ x, (enc x).length = 2) (h1 : ∀ x, ∀ v ∈ enc x, v.oneCell' = true) (cf : α → α → Int) (hO : SWO (ltOf cf)) (g : Nat) (cb : Array Value) (blk off cap : Nat) (d : Array α) (w : World)
    (eg : ∀ args w, (callFunc g args).run Tryz.prog w = .ok (.enter g args) w) (hcmp : CmpLays Tryz.prog g cb enc 2 cf blk off d.size w) (hH : HoldsK enc 2 w blk off d) (hblk : blk < w.heap.size) (hsz : d.size < 4611686018427387904) :
    Calls Tryz.prog 45 #[.slice (some ⟨blk, off, none⟩) d.size cap, .func (.func g) #[] cb] w fun e w' =>
      e = .returned (.tuple #[]) ∧ ∃ d' n os, PermIn 0 d.size d d' ∧ SortedIn (ltOf cf) 0 d.size d' ∧ w' = sortWorldK enc 2 w blk off n d' os :=
  AnyQ.slices_SortFunc Tryz.sortEnt 2 Tryz.isAgg60 Tryz.sizeOf60 enc hk h1 cf hO g cb blk off cap d w eg hcmp hH hblk hsz
theorem sortNone_any (p : Option Addr) (cap : Nat) (fv : Value) (w : World) :
    Calls Tryz.prog 45 #[.slice p 0 cap, fv] w fun e w' => e = .returned (.tuple #[]) ∧ w' = w :=
  AnyF.slices_SortFunc_none Tryz.sortEnt p cap fv w
/-- What the sort of a row of entries leaves. -/
def SortedPost (base : Nat) (w : World) (A : Option Addr) (n : Nat) (es : List Ent) (e : Ending) (w' : World) : Prop :=
  e = .returned (.tuple #[]) ∧ (∃ ds', entE ds' = sortE es ∧ ReadE w' w'.heap.size A n ds') ∧ Below base w w'
theorem sortFunc_any (A : Option Addr) (n c base : Nat) (ds : List EV) (w : World) (h : OwnE w base (.slice A n c) ds) (hl : ds.length = n) (hn : n ≤ 100000) (hbase : base ≤ w.heap.size) :
    Calls Tryz.prog 45 #[.slice A n c, .func (.func 29) #[] #[]] w (SortedPost base w A n (entE ds)) := by
  rcases Nat.eq_zero_or_pos n with h0 | h0
  · subst h0
    have hd : ds = [] := List.eq_nil_of_length_eq_zero hl
    subst hd
    refine (sortNone_any A c (.func (.func 29) #[] #[]) w).mono ?_
    rintro e w' ⟨rfl, rfl⟩
    exact ⟨rfl, ⟨[], by simp [entE, sortE], ⟨⟨by simp [cellsE], fun h => absurd h (Nat.lt_irrefl 0)⟩, fun h => absurd h (Nat.lt_irrefl 0)⟩, fun e he => by cases he⟩, Below.refl _ _⟩
  · obtain ⟨g, cap, hv, hg, hlt⟩ := World.ownsRow.form h.1 (by omega)
    injection hv with hv1 _ hv3
    subst hv1 hv3
    have hrow : w.ownsRow base 60 2 (.slice (some ⟨g, 0, none⟩) n c) n (cellsE ds) := by rw [← hl]; rw [← hl] at h; exact h.1
    have hka : ∀ e ∈ ds, KeyAt w g e := fun e he => keyAt_own (h.2 e he).1 (h.2 e he).2 hrow
    obtain ⟨xs, hxs⟩ : ∃ xs : List (EVs w g), xs.map Subtype.val = ds := ⟨ds.pmap (fun e he => ⟨e, he⟩) hka, by rw [List.map_pmap]; simp⟩
    have hxl : xs.length = n := by rw [← hl, ← hxs, List.length_map]
    have hcells : cellsE ds = xs.flatMap encV := by rw [← hxs, cellsE, List.flatMap_map]; rfl
    rw [hcells] at hrow
    have hH := holdsK_own (enc := encV) (fun x => EV.len x.1) hrow hxl
    have hcon := sortFunc_at (encV (w := w) (blk := g)) (fun x => EV.len x.1) (fun x => EV.one x.1) befV (swoV w g) 29 #[] g 0 c xs.toArray w (fun args W => enters_of Tryz.func29 (by kernel_rfl) rfl args W) (cmpLaysV w g 0 _) hH hlt (by simp; omega)
    have hsz : xs.toArray.size = n := by simpa using hxl
    rw [hsz] at hcon
    refine hcon.mono ?_
    rintro e w' ⟨rfl, d', m, os, hp, hs, rfl⟩
    rw [← hsz] at hp hs
    have hd1 : d'.size = xs.toArray.size := hp.1
    have hperm := permIn_list hp
    have hsort := sortedIn_list hd1 hs
    refine ⟨rfl, ⟨d'.toList.map Subtype.val, ?_, ?_, ?_⟩, (below_sortWorldK _ _ _ _ _ _ _ _ hlt).mono hg⟩
    · refine sortE_unique ?_ ?_
      · unfold entE
        rw [← hxs]
        exact (hperm.map Subtype.val).map EV.ent
      · unfold entE SortedE
        rw [List.map_map, List.pairwise_map]
        refine hsort.imp (fun {x y} hxy => ?_)
        unfold ltOf befV at hxy
        rw [decide_eq_false_iff_not] at hxy
        have := befE_anti x.1.ent y.1.ent
        show befE x.1.ent y.1.ent ≤ 0
        omega
    · have hH' := holdsK_sortWorldK_c (encV (w := w) (blk := g)) 2 w g 0 xs.toArray d' m os hH hlt hd1
      have := reads_holdsK (enc := encV) (ds := d'.toList) (fun x : EVs w g => EV.len x.1) (by simpa using hH') (n := n) (by rw [Array.length_toList, hd1, hsz]) (Nat.lt_of_lt_of_le hlt (size_sortWorldK_c (encV (w := w) (blk := g)) 2 w g 0 m d' os))
      rw [cellsE, List.flatMap_map]
      exact ⟨this, fun _ => ⟨g, rfl⟩⟩
    · intro e he
      obtain ⟨x, _, rfl⟩ := List.mem_map.1 he
      exact ⟨x.2.reads (size_sortWorldK_c (encV (w := w) (blk := g)) 2 w g 0 m d' os) (fun b h1 h2 => block_sortWorldK (encV (w := w) (blk := g)) 2 w g 0 m d' os h1 h2), x.2.1⟩
end Go.Proofs.YtcdpadggjkobjaaGreatDoor
