/-
  Plain facts of layer 43: projects, read; what reading a thing with parts ends in. Conditions: none.
-/
import Derived.Test.YtmepaeahchiglaaGreatDoorZbaj
import Derived.Test.YtmepaeahchiglaaGreatDoorZbal
import Derived.Test.YtmepaeahchiglaaGreatDoorZbav
import Derived.Test.YtmepaeahchiglaaGreatDoorZbad
import Derived.Test.YtmepaeahchiglaaGreatDoorZbac
import Derived.Deep.RegionHeldLaw
namespace Go.Proofs.YtmepaeahchiglaaGreatDoor
open Go.RowKit Go.Lib

def nmdR : Rdr Nam := thenR textR fun s => thenR sndR fun x r => some ((s, x), r)
def mkdR : Rdr Mk := thenR textR fun s => thenR readN fun c => thenR sndR fun x r => some (⟨s, c, x⟩, r)
def ndR : Rdr Nd := thenR readN fun k => thenR textR fun s r => some (((k : Int) - 1, s), r)
def intR : Rdr Int := thenR readN fun k r => some ((k : Int), r)
def formR : Rdr Fm := thenR flagR fun h => if h = true then thenR wordR fun x r => some (⟨true, x⟩, r) else fun r => some (⟨false, []⟩, r)
def enR : Rdr En := thenR textR fun s => thenR (someR formR) fun l r => some (⟨s, l⟩, r)
structure Hs where
  tree : List Nd
  laws : List Lw
  on : List (List Int)
def histR : Rdr Hs := thenR (someR ndR) fun t => thenR (someR lawR) fun l => thenR (manyR (someR intR) t.length) fun o r => some (⟨t, l, o⟩, r)
def projR : Rdr Pj := thenR (someR textR) fun f => thenR (someR nmdR) fun s => thenR (someR mkdR) fun m => thenR histR fun h => thenR (someR formR) fun p => thenR (someR enR) fun e r => some (⟨f, s, m, h.tree, h.laws, h.on, p, e⟩, r)
/-- What is read of bytes holds. -/
def Sure {α : Type} (get : Rdr α) (P : α → Nat → Prop) : Prop := ∀ b x r, (∀ c ∈ b, c < 256) → get b = some (x, r) → P x b.length ∧ (∀ c ∈ r, c < 256) ∧ r.length ≤ b.length
section
variable {α β : Type} {g : Rdr α} {f : α → Rdr β} {P : α → Nat → Prop} {Q : β → Nat → Prop}
theorem sure_ret {x y : α} {b r : List Nat} (h : some (x, b) = some (y, r)) (hb : ∀ c ∈ b, c < 256) : x = y ∧ (∀ c ∈ r, c < 256) ∧ r.length ≤ b.length := by
  injection h with h
  obtain ⟨e, rfl⟩ := Prod.mk.inj h
  exact ⟨e, hb, Nat.le_refl _⟩
theorem Sure.at (h : Sure g P) {b r : List Nat} {x : α} {n : Nat} (hm : ∀ x m, P x m → m ≤ n → P x n) (hb : ∀ c ∈ b, c < 256) (hn : b.length ≤ n) (e : g b = some (x, r)) : P x n ∧ (∀ c ∈ r, c < 256) ∧ r.length ≤ b.length := by
  obtain ⟨p1, p2, p3⟩ := h b x r hb e
  exact ⟨hm x _ p1 hn, p2, p3⟩
end
theorem sure_num : Sure readN fun n _ => is32 n := fun b x r hb h => by
  obtain ⟨e, h1⟩ := readN_bytes hb h
  exact ⟨h1, fun c hc => hb c (by rw [e]; simp [hc]), by rw [e, List.length_append]; omega⟩
theorem sure_count : Sure countR fun n m => n ≤ m := fun b x r hb h => by
  have h0 := h
  unfold countR at h
  obtain ⟨n, s, e1, e2⟩ := thenR_out h
  obtain ⟨p1, p2, p3⟩ := sure_num b n s hb e1
  by_cases hle : n ≤ s.length
  · rw [if_pos hle] at e2
    injection e2 with e2
    obtain ⟨rfl, rfl⟩ := Prod.mk.inj e2
    exact ⟨by omega, p2, p3⟩
  · rw [if_neg hle] at e2; cases e2
theorem sure_snd : Sure sndR fun s _ => ok32 s := fun b x r hb h => by
  obtain ⟨e, h1⟩ := canon_snd b x r hb h
  exact ⟨h1, fun c hc => hb c (by rw [e]; simp [hc]), by rw [e, List.length_append]; omega⟩
theorem sure_text : Sure textR fun s m => s.size ≤ m := fun b x r hb h => by
  refine ⟨textR_size h hb, ?_, short_text _ _ _ h⟩
  unfold textR at h
  obtain ⟨n, s, e1, e2⟩ := thenR_out h
  obtain ⟨p1, p2, p3⟩ := sure_count b n s hb e1
  injection e2 with e2
  obtain ⟨-, rfl⟩ := Prod.mk.inj e2
  exact fun c hc => p2 c (List.mem_of_mem_drop hc)
theorem sure_many {α : Type} {g : Rdr α} {P : α → Nat → Prop} (h : Sure g P) (hm : ∀ x n m, P x n → n ≤ m → P x m) : ∀ n, Sure (manyR g n) fun l m => l.length = n ∧ ∀ x ∈ l, P x m
  | 0 => fun b x r hb e => by
    obtain ⟨rfl, h2, h3⟩ := sure_ret (show some (([] : List α), b) = some (x, r) from e) hb
    exact ⟨⟨rfl, fun x hx => by cases hx⟩, h2, h3⟩
  | n + 1 => fun b y r hb e => by
    obtain ⟨x, s, e1, e⟩ := thenR_out (show thenR g (fun x => thenR (manyR g n) fun l r => some (x :: l, r)) b = some (y, r) from e)
    obtain ⟨l, t, e2, e⟩ := thenR_out e
    obtain ⟨p1, p2, p3⟩ := h b x s hb e1
    obtain ⟨⟨q0, q1⟩, q2, q3⟩ := sure_many h hm n s l t p2 e2
    obtain ⟨rfl, h2, h3⟩ := sure_ret e q2
    refine ⟨⟨by rw [List.length_cons, q0], fun z hz => ?_⟩, h2, by omega⟩
    rcases List.mem_cons.1 hz with rfl | hz
    · exact p1
    · exact hm _ _ _ (q1 z hz) p3
theorem sure_some {α : Type} {g : Rdr α} {P : α → Nat → Prop} (h : Sure g P) (hm : ∀ x n m, P x n → n ≤ m → P x m) : Sure (someR g) fun l m => l.length ≤ m ∧ ∀ x ∈ l, P x m := fun b y r hb e => by
  obtain ⟨n, s, e1, e2⟩ := thenR_out (show thenR countR (fun n => manyR g n) b = some (y, r) from e)
  obtain ⟨p1, p2, p3⟩ := sure_count b n s hb e1
  obtain ⟨⟨q0, q1⟩, q2, q3⟩ := sure_many h hm n s y r p2 e2
  exact ⟨⟨by omega, fun z hz => hm _ _ _ (q1 z hz) p3⟩, q2, by omega⟩
/-! Rows of things whose parts lie in blocks of S. -/
section
variable {α : Type} {F F' : World → (Nat → Prop) → α → List Value → Prop} {w w' : World} {S S' : Nat → Prop}
def RowsF (F : World → (Nat → Prop) → α → List Value → Prop) (w : World) (S : Nat → Prop) : List α → List Value → Prop
  | [], xs => xs = []
  | x :: l, xs => ∃ c1 c2, xs = c1 ++ c2 ∧ F w S x c1 ∧ RowsF F w S l c2
theorem RowsF.imp : ∀ {l : List α} {xs : List Value}, RowsF F w S l xs → (∀ x cs, F w S x cs → F' w' S' x cs) → RowsF F' w' S' l xs
  | [], _, h, _ => h
  | x :: _, _, ⟨c1, c2, e, h1, h2⟩, hi => ⟨c1, c2, e, hi x c1 h1, RowsF.imp h2 hi⟩
theorem RowsF.append {x : α} {c2 : List Value} (h2 : F w S x c2) : ∀ {l : List α} {c1 : List Value}, RowsF F w S l c1 → RowsF F w S (l ++ [x]) (c1 ++ c2)
  | [], c1, h => by
    subst h
    exact ⟨c2, [], by simp, h2, rfl⟩
  | y :: l, c1, ⟨d1, d2, e, k1, k2⟩ => ⟨d1, d2 ++ c2, by rw [e, List.append_assoc], k1, RowsF.append h2 k2⟩
theorem RowsF.len {k : Nat} (hk : ∀ x cs, F w S x cs → cs.length = k) : ∀ {l : List α} {xs : List Value}, RowsF F w S l xs → xs.length = l.length * k
  | [], _, h => by subst h; simp
  | x :: l, _, ⟨c1, c2, e, h1, h2⟩ => by
    rw [e, List.length_append, hk x c1 h1, RowsF.len hk h2, List.length_cons, Nat.succ_mul, Nat.add_comm]
theorem RowsF.toC {P : World → Nat → α → List Value → Prop} {B : Nat} (hi : ∀ x cs, F w S x cs → P w B x cs) : ∀ {l : List α} {xs : List Value}, RowsF F w S l xs → RowsC P w B l xs
  | [], _, h => h
  | x :: _, _, ⟨c1, c2, e, h1, h2⟩ => ⟨c1, c2, e, hi x c1 h1, RowsF.toC hi h2⟩
/-- A slice of such things. -/
def SlF (F : World → (Nat → Prop) → α → List Value → Prop) (k : Nat) (w : World) (S : Nat → Prop) (l : List α) (v : Value) : Prop :=
  ∃ A c xs, v = .slice A l.length c ∧ (l.length ≤ c ∧ c ≤ maxLen) ∧ RowF w S k A l.length xs ∧ RowsF F w S l xs
theorem SlF.imp {k : Nat} {l : List α} {v : Value} (h : SlF F k w S l v) (hs : ∀ b, S b → S' b) (hk : ∀ q : Addr, S q.block → w'.cell? q = w.cell? q) (hi : ∀ x cs, F w S x cs → F' w' S' x cs) : SlF F' k w' S' l v := by
  obtain ⟨A, c, xs, e, h1, h2, h3⟩ := h
  exact ⟨A, c, xs, e, h1, h2.keep hs hk, h3.imp hi⟩
theorem SlF.toC {P : World → Nat → α → List Value → Prop} {B k : Nat} {l : List α} {v : Value} (h : SlF F k w S l v) (hs : ∀ b, S b → b < B) (hi : ∀ x cs, F w S x cs → P w B x cs) : SlC P k w B l v := by
  obtain ⟨A, c, xs, e, h1, h2, h3⟩ := h
  exact ⟨A, c, xs, e, h1, h2.reads hs, h3.toC hi⟩
theorem SlF.form {k : Nat} {l : List α} {v : Value} (h : SlF F k w S l v) : ∃ A c, v = .slice A l.length c := by
  obtain ⟨A, c, xs, e, _⟩ := h
  exact ⟨A, c, e⟩
theorem slF_nil (F : World → (Nat → Prop) → α → List Value → Prop) (k : Nat) (w : World) (S : Nat → Prop) : SlF F k w S [] (.slice none 0 0) :=
  ⟨none, 0, [], rfl, ⟨Nat.le_refl _, by unfold maxLen; omega⟩, ⟨by simp, fun h => absurd h (Nat.lt_irrefl _)⟩, rfl⟩
/-- What one has made of one's own. -/
theorem slF_own {k base : Nat} {t : TypeId} {l : List α} {v : Value} {xs : List Value} (ho : w.ownsRow base t k v l.length xs) (hv : ∀ b, v.ownBlock = some b → S b) (hp : RowsF F w S l xs) : SlF F k w S l v := by
  obtain ⟨A, c, rfl, h1, h2, h3⟩ := own_rowF ho
  exact ⟨A, c, xs, rfl, ⟨h1, h2⟩, h3.keep hv (fun _ _ => rfl), hp⟩
end
/-- Cells that the element alone tells. -/
def PlainF {α : Type} (f : α → List Value) (_ : World) (_ : Nat → Prop) (x : α) (cs : List Value) : Prop := cs = f x
theorem flat_rowsF {α : Type} {f : α → List Value} {w : World} {S : Nat → Prop} : ∀ (l : List α), RowsF (PlainF f) w S l (l.flatMap f)
  | [] => rfl
  | x :: l => ⟨f x, l.flatMap f, List.flatMap_cons, rfl, flat_rowsF l⟩
abbrev StrF := PlainF fun s : ByteArray => [Value.string s]
abbrev NmdF := PlainF namC
abbrev MkdF := PlainF markC
abbrev NdF := PlainF fun x : Nd => [Value.int .i64 x.1, Value.string x.2]
abbrev IntF := PlainF fun k : Int => [Value.int .i64 k]
abbrev SndF := PlainF sndC
def OnF (w : World) (S : Nat → Prop) (l : List Int) (cs : List Value) : Prop := ∃ v, cs = [v] ∧ SlF IntF 1 w S l v
def FormF (w : World) (S : Nat → Prop) (f : Fm) (cs : List Value) : Prop := ∃ v, cs = [.bool f.has, v] ∧ SlF SndF 2 w S f.w v
def EnF (w : World) (S : Nat → Prop) (x : En) (cs : List Value) : Prop := ∃ v, cs = [.string x.gloss, v] ∧ SlF FormF 2 w S x.forms v
def HsF (w : World) (S : Nat → Prop) (h : Hs) (cs : List Value) : Prop := ∃ v4 v5 v6, cs = [v4, v5, v6] ∧ SlF NdF 2 w S h.tree v4 ∧ SlF LawF 18 w S h.laws v5 ∧ SlF OnF 1 w S h.on v6
def ProjF (w : World) (S : Nat → Prop) (p : Pj) (cs : List Value) : Prop := ∃ v1 v2 v3 v4 v5 v6 v7 v8, cs = [v1, v2, v3, v4, v5, v6, v7, v8] ∧
  SlF StrF 1 w S p.feats v1 ∧ SlF NmdF 3 w S p.sounds v2 ∧ SlF MkdF 4 w S p.marks v3 ∧ SlF NdF 2 w S p.tree v4 ∧ SlF LawF 18 w S p.laws v5 ∧ SlF OnF 1 w S p.on v6 ∧ SlF FormF 2 w S p.protos v7 ∧ SlF EnF 2 w S p.entries v8
section
variable {w w' : World} {S S' : Nat → Prop} (hs : ∀ b, S b → S' b) (hk : ∀ q : Addr, S q.block → w'.cell? q = w.cell? q)
include hs hk
theorem SlF.plain {α : Type} {f : α → List Value} {k : Nat} {l : List α} {v : Value} (h : SlF (PlainF f) k w S l v) : SlF (PlainF f) k w' S' l v := h.imp hs hk fun _ _ h => h
theorem OnF.keep {l : List Int} {cs : List Value} (h : OnF w S l cs) : OnF w' S' l cs := by
  obtain ⟨v, e, h⟩ := h
  exact ⟨v, e, SlF.plain hs hk h⟩
theorem FormF.keep {f : Fm} {cs : List Value} (h : FormF w S f cs) : FormF w' S' f cs := by
  obtain ⟨v, e, h⟩ := h
  exact ⟨v, e, SlF.plain hs hk h⟩
theorem EnF.keep {x : En} {cs : List Value} (h : EnF w S x cs) : EnF w' S' x cs := by
  obtain ⟨v, e, h⟩ := h
  exact ⟨v, e, h.imp hs hk fun _ _ h => FormF.keep hs hk h⟩
theorem HsF.keep {h : Hs} {cs : List Value} (hh : HsF w S h cs) : HsF w' S' h cs := by
  obtain ⟨v4, v5, v6, e, h4, h5, h6⟩ := hh
  exact ⟨v4, v5, v6, e, SlF.plain hs hk h4, h5.imp hs hk fun _ _ h => h.keep hs hk, h6.imp hs hk fun _ _ h => OnF.keep hs hk h⟩
theorem ProjF.keep {p : Pj} {cs : List Value} (h : ProjF w S p cs) : ProjF w' S' p cs := by
  obtain ⟨v1, v2, v3, v4, v5, v6, v7, v8, e, h1, h2, h3, h4, h5, h6, h7, h8⟩ := h
  exact ⟨v1, v2, v3, v4, v5, v6, v7, v8, e, SlF.plain hs hk h1, SlF.plain hs hk h2, SlF.plain hs hk h3, SlF.plain hs hk h4, h5.imp hs hk fun _ _ h => h.keep hs hk, h6.imp hs hk fun _ _ h => OnF.keep hs hk h, h7.imp hs hk fun _ _ h => FormF.keep hs hk h, h8.imp hs hk fun _ _ h => EnF.keep hs hk h⟩
end
section
variable {w : World} {S : Nat → Prop} {B : Nat} (hs : ∀ b, S b → b < B)
include hs
theorem FormF.toC {f : Fm} {cs : List Value} (h : FormF w S f cs) : FormC w B f cs := by
  obtain ⟨v, e, h⟩ := h
  exact ⟨v, e, h.toC hs fun _ _ h => h⟩
theorem ProjF.toC {p : Pj} {cs : List Value} (h : ProjF w S p cs) : ProjC w B p cs := by
  obtain ⟨v1, v2, v3, v4, v5, v6, v7, v8, e, h1, h2, h3, h4, h5, h6, h7, h8⟩ := h
  refine ⟨v1, v2, v3, v4, v5, v6, v7, v8, e, h1.toC hs fun _ _ h => h, h2.toC hs fun _ _ h => h, h3.toC hs fun _ _ h => h, h4.toC hs fun _ _ h => h, h5.toC hs fun _ _ h => h.toC hs, h6.toC hs fun _ _ h => ?_, h7.toC hs fun _ _ h => FormF.toC hs h, h8.toC hs fun _ _ h => ?_⟩
  · obtain ⟨v, e, h⟩ := h
    exact ⟨v, e, h.toC hs fun _ _ h => h⟩
  · obtain ⟨v, e, h⟩ := h
    exact ⟨v, e, h.toC hs fun _ _ h => FormF.toC hs h⟩
end
/-- What is new since. -/
abbrev NewS (w W : World) : Nat → Prop := fun b => w.heap.size ≤ b ∧ b < W.heap.size
abbrev aggM (cs : List Value) : Value := .agg cs.toArray
abbrev oneM (cs : List Value) : Value := cs.headD undef
/-- What reading an element ends in: its cells, whose parts are new. -/
def ElPost {α : Type} (g : Nat) (F : World → (Nat → Prop) → α → List Value → Prop) (mk : List Value → Value) (w : World) (o : Option (α × List Nat)) (e : Ending) (w' : World) : Prop :=
  Chg [g] w w' ∧ match o with
    | some (x, r) => ∃ cs, e = .returned (mk cs) ∧ F w' (NewS w w') x cs ∧ Rd w' g r
    | none => e = .panicked MAL
/-- What reading several ends in. -/
def LsPost {α : Type} (g k : Nat) (F : World → (Nat → Prop) → α → List Value → Prop) (w : World) (o : Option (List α × List Nat)) (e : Ending) (w' : World) : Prop :=
  Chg [g] w w' ∧ match o with
    | some (l, r) => ∃ v, e = .returned v ∧ SlF F k w' (NewS w w') l v ∧ Rd w' g r
    | none => e = .panicked MAL
end Go.Proofs.YtmepaeahchiglaaGreatDoor
namespace Go.Proofs.YtmepaeahchiglaaGreatDoor
open Go.RowKit Go.Lib

def SameOk (m : Nat) : Prop := ∀ (p : Pt) (cs1 cs2 : List Value) (w : World) (B : Nat), ptSize p ≤ m → PatC w B p cs1 → PatC w B p cs2 → B ≤ w.heap.size →
  Calls Tryz.prog 205 #[.agg cs1.toArray, .agg cs2.toArray] w fun e w' => e = .returned (.bool true) ∧ Below w.heap.size w w'
set_option linter.unusedSimpArgs false in
set_option maxRecDepth 20000 in
set_option maxHeartbeats 4000000 in
theorem same_step (m : Nat) (hm : SameOk m) : SameOk (m + 1) := by
  rintro ⟨k, s, neg, lo, hi, l⟩ cs1 cs2 w B hsz h1 h2 hB
  rw [patC_mk] at h1 h2
  obtain ⟨A1, c1, xs, rfl, h32, hl1, hc1, hr1, hp1⟩ := h1
  obtain ⟨A2, c2, ys, rfl, -, hl2, hc2, hr2, hp2⟩ := h2
  obtain ⟨a, b⟩ := s
  rw [ptSize_mk] at hsz
  have hst := ((Below.refl w.heap.size w).alloc (Nat.le_refl _) (.cells #[.int .i64 k, .int .u32 a, .int .u32 b, .bool neg, .int .i64 lo, .int .i64 hi, .slice A1 l.length c1] 58)).alloc (by simp) (.cells #[.int .i64 k, .int .u32 a, .int .u32 b, .bool neg, .int .i64 lo, .int .i64 hi, .slice A2 l.length c2] 58)
  have b1 := (Blk.new w 58 #[.int .i64 k, .int .u32 a, .int .u32 b, .bool neg, .int .i64 lo, .int .i64 hi, .slice A1 l.length c1]).alloc (.cells #[.int .i64 k, .int .u32 a, .int .u32 b, .bool neg, .int .i64 lo, .int .i64 hi, .slice A2 l.length c2] 58)
  have b2 := Blk.new (w.alloc (.cells #[.int .i64 k, .int .u32 a, .int .u32 b, .bool neg, .int .i64 lo, .int .i64 hi, .slice A1 l.length c1] 58)) 58 #[.int .i64 k, .int .u32 a, .int .u32 b, .bool neg, .int .i64 lo, .int .i64 hi, .slice A2 l.length c2]
  rw [World.size_alloc] at b2
  have hr1 := hr1.below (hst.mono hB)
  have hr2 := hr2.below (hst.mono hB)
  have hp1 := hp1.below (hst.mono hB)
  have hp2 := hp2.below (hst.mono hB)
  obtain ⟨Z0, hZ0⟩ : ∃ Z, (w.alloc (.cells #[.int .i64 k, .int .u32 a, .int .u32 b, .bool neg, .int .i64 lo, .int .i64 hi, .slice A1 l.length c1] 58)).alloc (.cells #[.int .i64 k, .int .u32 a, .int .u32 b, .bool neg, .int .i64 lo, .int .i64 hi, .slice A2 l.length c2] 58) = Z := ⟨_, rfl⟩
  have hsz0 : Z0.heap.size = w.heap.size + 1 + 1 := by rw [← hZ0]; simp
  rw [hZ0] at hst b1 b2 hr1 hr2 hp1 hp2
  have HZ0 := Lib.hid hZ0; have HST := Lib.hid hst; have HB1 := Lib.hid b1; have HB2 := Lib.hid b2; have HR1 := Lib.hid hr1; have HR2 := Lib.hid hr2; have HP1 := Lib.hid hp1; have HP2 := Lib.hid hp2; have HM := Lib.hid hm
  unfold maxLen at hc1 hc2
  clear hZ0 hst b1 b2 hr1 hr2 hp1 hp2 hm h32
  show Calls _ _ #[.agg #[.int .i64 k, .int .u32 a, .int .u32 b, .bool neg, .int .i64 lo, .int .i64 hi, .slice A1 l.length c1], .agg #[.int .i64 k, .int .u32 a, .int .u32 b, .bool neg, .int .i64 lo, .int .i64 hi, .slice A2 l.length c2]] _ _
  go_enter Tryz.func205, Tryz.ntmps205
  go_wp2
  rw [HZ0.out]
  clear HZ0
  go_loopw [5] (fun i wr => ∃ j : Nat, j ≤ l.length ∧ i = .int .i64 j ∧ Below Z0.heap.size Z0 wr) (fun i _ => l.length - (RowKit.intOf i).toNat)
  case atStart => exact ⟨0, Nat.zero_le _, rfl, Below.refl _ _⟩
  case round =>
    obtain ⟨j, hj, rfl, hb⟩ := hrel
    obtain ⟨c0, c1', c2', c3, c4, c5, c6⟩ := (HB1.out.below hb (by omega)).seven
    obtain ⟨d0, d1, d2, d3, d4, d5, d6⟩ := (HB2.out.below hb (by omega)).seven
    have HB := Lib.hid hb
    have hbs := hb.size
    clear hb
    by_cases hlt : j < l.length
    · have hjI : (j : Int) < (l.length : Int) := by omega
      obtain ⟨ad1, pk, ps, pneg, plo, phi, pA, pn, pc, rfl, had1, hpc1, e0, e1, e2, e3, e4, e5, e6⟩ := pat_cells (HR1.out.below (HB.out.mono (by omega))) (HP1.out.below (HB.out.mono (by omega))) rfl hlt
      obtain ⟨ad2, qk, qs, qneg, qlo, qhi, qA, qn, qc, rfl, had2, hpc2, f0, f1, f2, f3, f4, f5, f6⟩ := pat_cells (HR2.out.below (HB.out.mono (by omega))) (HP2.out.below (HB.out.mono (by omega))) rfl hlt
      have hcall := fun W (hW : Below wr.heap.size wr W) => HM.out l[j] _ _ W B (by have := ptSize_mem (List.getElem_mem hlt); omega) (hpc1.below (hW.mono (by omega))) (hpc2.below (hW.mono (by omega))) (by have := hW.size; omega)
      have HCALL := Lib.hid hcall
      have HCS : Hid (∀ W : World, Below wr.heap.size wr W → W.cell? ⟨w.heap.size, 6, none⟩ = some (.slice (some ad1) l.length c1) ∧ W.cell? ⟨w.heap.size + 1, 6, none⟩ = some (.slice (some ad2) l.length c2) ∧ (W.cell? (ad1.add (j * 7)) = some (.int .i64 pk) ∧ W.cell? ⟨(ad1.add (j * 7)).block, (ad1.add (j * 7)).off + 1, none⟩ = some (.int .u32 ps.1) ∧ W.cell? ⟨(ad1.add (j * 7)).block, (ad1.add (j * 7)).off + 2, none⟩ = some (.int .u32 ps.2) ∧ W.cell? ⟨(ad1.add (j * 7)).block, (ad1.add (j * 7)).off + 3, none⟩ = some (.bool pneg) ∧ W.cell? ⟨(ad1.add (j * 7)).block, (ad1.add (j * 7)).off + 4, none⟩ = some (.int .i64 plo) ∧ W.cell? ⟨(ad1.add (j * 7)).block, (ad1.add (j * 7)).off + 5, none⟩ = some (.int .i64 phi) ∧ W.cell? ⟨(ad1.add (j * 7)).block, (ad1.add (j * 7)).off + 6, none⟩ = some (.slice pA pn pc)) ∧ (W.cell? (ad2.add (j * 7)) = some (.int .i64 qk) ∧ W.cell? ⟨(ad2.add (j * 7)).block, (ad2.add (j * 7)).off + 1, none⟩ = some (.int .u32 qs.1) ∧ W.cell? ⟨(ad2.add (j * 7)).block, (ad2.add (j * 7)).off + 2, none⟩ = some (.int .u32 qs.2) ∧ W.cell? ⟨(ad2.add (j * 7)).block, (ad2.add (j * 7)).off + 3, none⟩ = some (.bool qneg) ∧ W.cell? ⟨(ad2.add (j * 7)).block, (ad2.add (j * 7)).off + 4, none⟩ = some (.int .i64 qlo) ∧ W.cell? ⟨(ad2.add (j * 7)).block, (ad2.add (j * 7)).off + 5, none⟩ = some (.int .i64 qhi) ∧ W.cell? ⟨(ad2.add (j * 7)).block, (ad2.add (j * 7)).off + 6, none⟩ = some (.slice qA qn qc))) := Lib.hid fun W hW => ⟨(hW.cell (p := ⟨w.heap.size, 6, none⟩) (by omega : w.heap.size < wr.heap.size)).trans c6, (hW.cell (p := ⟨w.heap.size + 1, 6, none⟩) (by omega : w.heap.size + 1 < wr.heap.size)).trans d6, ⟨(hW.cell (p := ad1.add (j * 7)) (by rw [block_of_add]; omega)).trans e0, (hW.cell (p := ⟨(ad1.add (j * 7)).block, (ad1.add (j * 7)).off + 1, none⟩) (by rw [block_of_add]; omega)).trans e1, (hW.cell (p := ⟨(ad1.add (j * 7)).block, (ad1.add (j * 7)).off + 2, none⟩) (by rw [block_of_add]; omega)).trans e2, (hW.cell (p := ⟨(ad1.add (j * 7)).block, (ad1.add (j * 7)).off + 3, none⟩) (by rw [block_of_add]; omega)).trans e3, (hW.cell (p := ⟨(ad1.add (j * 7)).block, (ad1.add (j * 7)).off + 4, none⟩) (by rw [block_of_add]; omega)).trans e4, (hW.cell (p := ⟨(ad1.add (j * 7)).block, (ad1.add (j * 7)).off + 5, none⟩) (by rw [block_of_add]; omega)).trans e5, (hW.cell (p := ⟨(ad1.add (j * 7)).block, (ad1.add (j * 7)).off + 6, none⟩) (by rw [block_of_add]; omega)).trans e6⟩, ⟨(hW.cell (p := ad2.add (j * 7)) (by rw [block_of_add]; omega)).trans f0, (hW.cell (p := ⟨(ad2.add (j * 7)).block, (ad2.add (j * 7)).off + 1, none⟩) (by rw [block_of_add]; omega)).trans f1, (hW.cell (p := ⟨(ad2.add (j * 7)).block, (ad2.add (j * 7)).off + 2, none⟩) (by rw [block_of_add]; omega)).trans f2, (hW.cell (p := ⟨(ad2.add (j * 7)).block, (ad2.add (j * 7)).off + 3, none⟩) (by rw [block_of_add]; omega)).trans f3, (hW.cell (p := ⟨(ad2.add (j * 7)).block, (ad2.add (j * 7)).off + 4, none⟩) (by rw [block_of_add]; omega)).trans f4, (hW.cell (p := ⟨(ad2.add (j * 7)).block, (ad2.add (j * 7)).off + 5, none⟩) (by rw [block_of_add]; omega)).trans f5, (hW.cell (p := ⟨(ad2.add (j * 7)).block, (ad2.add (j * 7)).off + 6, none⟩) (by rw [block_of_add]; omega)).trans f6⟩⟩
      clear hcall hpc1 hpc2
      go_wp2
      refine wp_region_held_drew (S := (fun W => W.cell? ⟨w.heap.size, 6, none⟩ = some (.slice (some ad1) l.length c1) ∧ W.cell? ⟨w.heap.size + 1, 6, none⟩ = some (.slice (some ad2) l.length c2) ∧ (W.cell? (ad1.add (j * 7)) = some (.int .i64 pk) ∧ W.cell? ⟨(ad1.add (j * 7)).block, (ad1.add (j * 7)).off + 1, none⟩ = some (.int .u32 ps.1) ∧ W.cell? ⟨(ad1.add (j * 7)).block, (ad1.add (j * 7)).off + 2, none⟩ = some (.int .u32 ps.2) ∧ W.cell? ⟨(ad1.add (j * 7)).block, (ad1.add (j * 7)).off + 3, none⟩ = some (.bool pneg) ∧ W.cell? ⟨(ad1.add (j * 7)).block, (ad1.add (j * 7)).off + 4, none⟩ = some (.int .i64 plo) ∧ W.cell? ⟨(ad1.add (j * 7)).block, (ad1.add (j * 7)).off + 5, none⟩ = some (.int .i64 phi) ∧ W.cell? ⟨(ad1.add (j * 7)).block, (ad1.add (j * 7)).off + 6, none⟩ = some (.slice pA pn pc)) ∧ (W.cell? (ad2.add (j * 7)) = some (.int .i64 qk) ∧ W.cell? ⟨(ad2.add (j * 7)).block, (ad2.add (j * 7)).off + 1, none⟩ = some (.int .u32 qs.1) ∧ W.cell? ⟨(ad2.add (j * 7)).block, (ad2.add (j * 7)).off + 2, none⟩ = some (.int .u32 qs.2) ∧ W.cell? ⟨(ad2.add (j * 7)).block, (ad2.add (j * 7)).off + 3, none⟩ = some (.bool qneg) ∧ W.cell? ⟨(ad2.add (j * 7)).block, (ad2.add (j * 7)).off + 4, none⟩ = some (.int .i64 qlo) ∧ W.cell? ⟨(ad2.add (j * 7)).block, (ad2.add (j * 7)).off + 5, none⟩ = some (.int .i64 qhi) ∧ W.cell? ⟨(ad2.add (j * 7)).block, (ad2.add (j * 7)).off + 6, none⟩ = some (.slice qA qn qc)))) (by kernel_rfl) ?_ (fun hHeld => ?_)
      · (try dsimp only)
        (first | exact HCS.out _ ((Below.refl _ _).drew) | exact HCS.out _ (Below.refl _ _) | exact HCS.out _ HB5.out)
      refine wpAnyH_take (i := 0) (v := ?_) rfl (by kernel_rfl) (by kernel_rfl) (by kernel_rfl) (fun _ _ _ h => h) (Or.inl ⟨by rfl, ?_⟩) (by assumption) ?_
      rotate_left
      · intro w hSw
        (try dsimp only at hSw)
        go_simp <;> with_reducible rfl
      try simp only [Act.put, List.getElem_toArray, List.getElem_cons_succ, List.getElem_cons_zero, List.setIfInBounds_toArray, List.set_cons_zero, List.set_cons_succ]
      refine wpAnyH_take (i := 1) (v := ?_) rfl (by kernel_rfl) (by kernel_rfl) (by kernel_rfl) (fun _ _ _ h => h) (Or.inl ⟨by rfl, ?_⟩) (by assumption) ?_
      rotate_left
      · intro w hSw
        (try dsimp only at hSw)
        go_simp <;> with_reducible rfl
      try simp only [Act.put, List.getElem_toArray, List.getElem_cons_succ, List.getElem_cons_zero, List.setIfInBounds_toArray, List.set_cons_zero, List.set_cons_succ]
      refine wpAnyH_take (i := 2) (v := ?_) rfl (by kernel_rfl) (by kernel_rfl) (by kernel_rfl) (fun _ _ _ h => h) (Or.inl ⟨by rfl, ?_⟩) (by assumption) ?_
      rotate_left
      · intro w hSw
        (try dsimp only at hSw)
        go_simp <;> with_reducible rfl
      try simp only [Act.put, List.getElem_toArray, List.getElem_cons_succ, List.getElem_cons_zero, List.setIfInBounds_toArray, List.set_cons_zero, List.set_cons_succ]
      refine wpAnyH_take (i := 3) (v := ?_) rfl (by kernel_rfl) (by kernel_rfl) (by kernel_rfl) (fun _ _ _ h => h) (Or.inl ⟨by rfl, ?_⟩) (by assumption) ?_
      rotate_left
      · intro w hSw
        (try dsimp only at hSw)
        go_simp <;> with_reducible rfl
      try simp only [Act.put, List.getElem_toArray, List.getElem_cons_succ, List.getElem_cons_zero, List.setIfInBounds_toArray, List.set_cons_zero, List.set_cons_succ]
      refine wpAnyH_take (i := 4) (v := ?_) rfl (by kernel_rfl) (by kernel_rfl) (by kernel_rfl) (fun _ _ _ h => h) (Or.inl ⟨by rfl, ?_⟩) (by assumption) ?_
      rotate_left
      · intro w hSw
        (try dsimp only at hSw)
        go_simp <;> with_reducible rfl
      try simp only [Act.put, List.getElem_toArray, List.getElem_cons_succ, List.getElem_cons_zero, List.setIfInBounds_toArray, List.set_cons_zero, List.set_cons_succ]
      refine wpAnyH_take (i := 5) (v := ?_) rfl (by kernel_rfl) (by kernel_rfl) (by kernel_rfl) (fun _ _ _ h => h) (Or.inl ⟨by rfl, ?_⟩) (by assumption) ?_
      rotate_left
      · intro w hSw
        (try dsimp only at hSw)
        go_simp <;> with_reducible rfl
      try simp only [Act.put, List.getElem_toArray, List.getElem_cons_succ, List.getElem_cons_zero, List.setIfInBounds_toArray, List.set_cons_zero, List.set_cons_succ]
      refine wpAnyH_take (i := 6) (v := ?_) rfl (by kernel_rfl) (by kernel_rfl) (by kernel_rfl) (fun _ _ _ h => h) (Or.inl ⟨by rfl, ?_⟩) (by assumption) ?_
      rotate_left
      · intro w hSw
        (try dsimp only at hSw)
        go_simp <;> with_reducible rfl
      try simp only [Act.put, List.getElem_toArray, List.getElem_cons_succ, List.getElem_cons_zero, List.setIfInBounds_toArray, List.set_cons_zero, List.set_cons_succ]
      refine wpAnyH_take (i := 7) (v := ?_) rfl (by kernel_rfl) (by kernel_rfl) (by kernel_rfl) (fun _ _ _ h => h) (Or.inl ⟨by rfl, ?_⟩) (by assumption) ?_
      rotate_left
      · intro w hSw
        (try dsimp only at hSw)
        go_simp <;> with_reducible rfl
      try simp only [Act.put, List.getElem_toArray, List.getElem_cons_succ, List.getElem_cons_zero, List.setIfInBounds_toArray, List.set_cons_zero, List.set_cons_succ]
      refine wpAnyH_take (i := 8) (v := ?_) rfl (by kernel_rfl) (by kernel_rfl) (by kernel_rfl) (fun _ _ _ h => h) (Or.inl ⟨by rfl, ?_⟩) (by assumption) ?_
      rotate_left
      · intro w hSw
        (try dsimp only at hSw)
        go_simp <;> with_reducible rfl
      try simp only [Act.put, List.getElem_toArray, List.getElem_cons_succ, List.getElem_cons_zero, List.setIfInBounds_toArray, List.set_cons_zero, List.set_cons_succ]
      refine wpAnyH_take (i := 9) (v := ?_) rfl (by kernel_rfl) (by kernel_rfl) (by kernel_rfl) (fun _ _ _ h => h) (Or.inl ⟨by rfl, ?_⟩) (by assumption) ?_
      rotate_left
      · intro w hSw
        (try dsimp only at hSw)
        go_simp <;> with_reducible rfl
      try simp only [Act.put, List.getElem_toArray, List.getElem_cons_succ, List.getElem_cons_zero, List.setIfInBounds_toArray, List.set_cons_zero, List.set_cons_succ]
      refine wpAnyH_ready (rs := [10]) (by kernel_rfl) (by simp) ?_
      refine AllReadyH.cons rfl (fun K hK => ?_) AllReadyH.nil
      go_simp
      (try go_wp2_with fail)
      refine (HCALL.out _ ((Below.refl _ _).drew)).mono ?_
      rintro e w5 ⟨rfl, hb5⟩
      have HB5 : Hid (Below wr.heap.size wr w5) := Lib.hid (((Below.refl _ wr).drew).trans hb5)
      clear hb5
      (try go_simp)
      refine hK.out _ _ ?_ (fun hHeld' => ?_)
      · (try dsimp only)
        (first | exact HCS.out _ ((Below.refl _ _).drew) | exact HCS.out _ (Below.refl _ _) | exact HCS.out _ HB5.out)
      clear hK K hHeld
      have hHeld := hHeld'
      clear hHeld'
      refine wpAnyH_take (i := 11) (v := ?_) rfl (by kernel_rfl) (by kernel_rfl) (by kernel_rfl) (fun _ _ _ h => h) (Or.inl ⟨by rfl, ?_⟩) (by assumption) ?_
      rotate_left
      · intro w hSw
        (try dsimp only at hSw)
        go_simp <;> with_reducible rfl
      try simp only [Act.put, List.getElem_toArray, List.getElem_cons_succ, List.getElem_cons_zero, List.setIfInBounds_toArray, List.set_cons_zero, List.set_cons_succ]
      refine wpAnyH_done (by kernel_rfl) ?_ _
      go_wp2
      go_roundw
      case rel => exact ⟨j + 1, by omega, by go_num, HB.out.trans (HB5.out.mono hbs)⟩
      case measure => simp [RowKit.intOf]; omega
    · obtain rfl : j = l.length := by omega
      go_wp2
      go_ret
      exact ⟨rfl, HST.out.trans (HB.out.mono (by omega))⟩
theorem same_any : ∀ m, SameOk m
  | 0 => fun p _ _ _ _ h => absurd (ptSize_pos p) (by omega)
  | m + 1 => same_step m (same_any m)
end Go.Proofs.YtmepaeahchiglaaGreatDoor

