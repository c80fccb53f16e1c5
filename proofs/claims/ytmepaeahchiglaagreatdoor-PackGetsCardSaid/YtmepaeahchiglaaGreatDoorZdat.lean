/-
 layer 43: the reference's reader of projects: a thing whose fields are lists. Conditions: bytes that can be read.
-/
import Derived.Test.YtmepaeahchiglaaGreatDoorZdas
set_option maxRecDepth 20000
set_option maxHeartbeats 8000000
set_option linter.unusedSimpArgs false
set_option linter.unusedVariables false
namespace Go.Proofs.YtmepaeahchiglaaGreatDoor
open Go.RowKit Go.Lib
structure qz (w W : World) (g at_ : Nat) (all : List Nat) (bad : Bool) (bx : Nat) (t : TypeId) (cs : Array Value) : Prop where
 ch : av [g] w W
 rd : RS W g all at_ bad
 bb : Blk W bx t cs
 gw : g < w.heap.size
 hb : w.heap.size ≤ bx
section
variable {w W W' : World} {g at_ at' : Nat} {all : List Nat} {bad aO : Bool} {bx : Nat} {t : TypeId} {cs : Array Value}
theorem qz.aB (h : qz w W g at_ all bad bx t cs) (hc : av [g] W W') (hr : RS W' g all at' aO) : qz w W' g at' all aO bx t cs := by
 have h1 := h.gw; have h2 := h.hb
 exact ⟨h.ch.trans hc, hr, h.bb.aB hc (by simp only [List.mem_singleton]; omega), h1, h2⟩
theorem qz.drew (h : qz w W g at_ all bad bx t cs) : qz w W.drew g at_ all bad bx t cs := ⟨h.ch.drew, h.rd, h.bb, h.gw, h.hb⟩
theorem qz.alloc (h : qz w W g at_ all bad bx t cs) (o : Obj) : qz w (W.alloc o) g at_ all bad bx t cs := ⟨h.ch.alloc o, h.rd.alloc o, h.bb.alloc o, h.gw, h.hb⟩
theorem qz.grown {row : Option Nat} {B : Nat} (h : qz w W g at_ all bad bx t cs) (hg : W.grownBy W' row) (hr : ∀ k, row = some k → B ≤ k) (h1 : bx < B) : qz w W' g at_ all bad bx t cs := by
 have h0 := h.gw; have h3 := h.hb
 exact ⟨h.ch.grown hg fun k hk => by have := hr k hk; omega, h.rd.grown hg fun k hk => by have := hr k hk; omega, h.bb.grown hg fun e => by have := hr _ e.symm; omega, h0, h3⟩
theorem qz.set_ (h : qz w W g at_ all bad bx t cs) (i : Nat) (u : Value) : qz w (W.setCell ⟨bx, i, none⟩ u) g at_ all bad bx t (cs.setIfInBounds i u) := by
 have h1 := h.gw; have h2 := h.hb
 have hc : av [bx] W (W.setCell ⟨bx, i, none⟩ u) := (av.refl _ _).setCell (.inl (by simp)) u
 exact ⟨h.ch.new hc (fun j hj => .inr (by rw [List.mem_singleton.1 hj]; exact h2)), h.rd.aB hc (by intro k hk; rw [List.mem_singleton.1 hk]; omega), h.bb.set_ i u, h1, h2⟩
end
abbrev wB (L : Nat) (W : World) : Nat → Prop := fun b => L ≤ b ∧ b < W.heap.size
section
variable {α : Type} {F : World → (Nat → Prop) → α → List Value → Prop} {w W W' : World} {T : List Nat} {k L L' : Nat} {l : List α} {v : Value}
theorem dw.fF (hF : iU F) (h : dw F k W (wB L W) l v) (hc : av T W W') (ht : ∀ i ∈ T, i < L) : dw F k W' (wB L W') l v := by
 have h1 : ∀ b, wB L W b → wB L W' b := fun b hb => ⟨hb.1, Nat.lt_of_lt_of_le hb.2 hc.size⟩
 have h2 : ∀ q : Addr, wB L W q.block → W'.cell? q = W.cell? q := fun q hq => by
  unfold World.cell?
  rw [hc.block q.block hq.2 (fun hm => by have := ht _ hm; have := hq.1; omega)]
 exact h.imp h1 h2 fun _ _ hy => hF _ _ _ _ _ _ h1 h2 hy
theorem dw.pQ (hF : iU F) (h : dw F k W (wB L W) l v) (hL : L' ≤ L) : dw F k W (wB L' W) l v := by
 have h1 : ∀ b, wB L W b → wB L' W b := fun b hb => ⟨Nat.le_trans hL hb.1, hb.2⟩
 exact h.imp h1 (fun _ _ => rfl) fun _ _ hy => hF _ _ _ _ _ _ h1 (fun _ _ => rfl) hy
theorem ER {base : Nat} {t : TypeId} {xs : List Value} (hF : iU F) (ho : w.ownsRow base t k v l.length xs) (hr : cK F w (fun b => base ≤ b ∧ b < w.heap.size ∧ v.ownBlock ≠ some b) l xs) : dw F k w (wB base w) l v :=
 nz ho (fun b hb => World.ownsRow.lt ho b hb) (hr.imp fun _ _ hy => hF _ _ _ _ _ _ (fun _ hc => ⟨hc.1, hc.2.1⟩) (fun _ _ => rfl) hy)
end
structure fO {α : Type} (F : World → (Nat → Prop) → α → List Value → Prop) (kF : Nat) (te : TypeId) (get : Rdr α) (f : Nat) (w Wi wr : World) (g n at1 : Nat) (all : List Nat) (b1 : Bool) (bx : Nat) (t : TypeId) (cs : Array Value) (j at' : Nat) (b' : Bool) (l : List α) (v : Value) (xs : List Value) : Prop where
 st : qz w wr g at' all b' bx t (cs.setIfInBounds f v)
 ch : av [g, bx] Wi wr
 hj : j ≤ n
 hl : l.length = j
 own : wr.ownsRow Wi.heap.size te kF v j xs
 rows : cK F wr (fun b => Wi.heap.size ≤ b ∧ b < wr.heap.size ∧ v.ownBlock ≠ some b) l xs
 inv : nS get n at1 all b1 b' l j at'
structure sQ {α : Type} (F : World → (Nat → Prop) → α → List Value → Prop) (kF : Nat) (get : Rdr α) (f : Nat) (w Wi wr : World) (g n at1 : Nat) (all : List Nat) (b1 : Bool) (bx : Nat) (t : TypeId) (cs : Array Value) (at' : Nat) (b' : Bool) (l : List α) (v : Value) : Prop where
 st : qz w wr g at' all b' bx t (cs.setIfInBounds f v)
 ch : av [g, bx] Wi wr
 sl : dw F kF wr (wB Wi.heap.size wr) l v
 inv : nS get n at1 all b1 b' l l.length at'
 full : l.length = n ∨ b' = true
section
variable {α : Type} {F : World → (Nat → Prop) → α → List Value → Prop} {kF : Nat} {te : TypeId} {get : Rdr α} {f : Nat} {w Wi wr w2 w3 : World} {g n at1 : Nat} {all : List Nat} {b1 : Bool} {bx : Nat} {t : TypeId} {cs : Array Value} {j at' at5 : Nat} {b' b5 : Bool} {l : List α} {v v' : Value} {xs ys : List Value} {x : α}
theorem fO.start (h : qz w Wi g at1 all b1 bx t cs) (hf : f < cs.size) (he : cs[f] = .slice none 0 0) : fO F kF te get f w Wi Wi g n at1 all b1 bx t cs 0 at1 b1 [] (.slice none 0 0) [] :=
 ⟨by rw [← he, Array.setIfInBounds, dif_pos hf, Array.set_getElem_self]; exact h, av.refl _ _, Nat.zero_le _, rfl, World.ownsRow_nil _ _ _ _, rfl, nS.start _ _ _ _ _⟩
theorem fO.fin (hF : iU F) (h : fO F kF te get f w Wi wr g n at1 all b1 bx t cs j at' b' l v xs) (hj : j = n ∨ b' = true) : sQ F kF get f w Wi wr g n at1 all b1 bx t cs at' b' l v := by
 have ho := h.own
 rw [← h.hl] at ho
 exact ⟨h.st, h.ch, ER hF ho h.rows, by rw [h.hl]; exact h.inv, by rw [h.hl]; exact hj⟩
theorem fO.own2 (h : fO F kF te get f w Wi wr g n at1 all b1 bx t cs j at' b' l v xs) (bE : bx < Wi.heap.size) (hc : av [g] wr w2) : w2.ownsRow Wi.heap.size te kF v j xs :=
 bY h.own hc fun i hi hm => by
  have h1 := (h.own.lt i hi).1
  have h2 := h.st.gw
  have h3 := h.st.hb
  simp only [List.mem_singleton] at hm
  omega
theorem fO.mid (h : fO F kF te get f w Wi wr g n at1 all b1 bx t cs j at' b' l v xs) (hc : av [g] wr w2) (hr : RS w2 g all at5 b5) : qz w w2 g at5 all b5 bx t (cs.setIfInBounds f v) := h.st.aB hc hr
theorem fO.next (hF : iU F) (h : fO F kF te get f w Wi wr g n at1 all b1 bx t cs j at' false l v xs) (hj : j < n) (bE : bx < Wi.heap.size) (hc : av [g] wr w2) (hr : RS w2 g all at5 b5) (hx : F w2 (dW wr w2) x ys) (hg : eT x b5 (all.drop at5) (get (all.drop at')))
 (ai : w3.ownsRow Wi.heap.size te kF v' (j + 1) (xs ++ ys)) (ag : (w2.alloc (.cells ys.toArray te)).grownBy w3 v.ownBlock) (hv : v'.ownBlock = v.ownBlock ∨ v'.ownBlock = some (w2.alloc (.cells ys.toArray te)).heap.size) :
 fO F kF te get f w Wi (w3.setCell ⟨bx, f, none⟩ v') g n at1 all b1 bx t cs (j + 1) at5 b5 (l ++ [x]) v' (xs ++ ys) := by
 have hsz0 := h.ch.size
 have hsz2 := hc.size
 have hsz3 := ag.size
 simp only [World.size_alloc] at hsz3 hv
 have hgw := h.st.gw
 have hgb := h.st.hb
 have aC : av [bx] w3 (w3.setCell ⟨bx, f, none⟩ v') := (av.refl _ _).setCell (.inl (by simp)) _
 have hown2 := h.own2 bE hc
 have hcell3 : ∀ q : Addr, Wi.heap.size ≤ q.block → q.block < w2.heap.size → some q.block ≠ v.ownBlock → (w3.setCell ⟨bx, f, none⟩ v').cell? q = w2.cell? q := fun q hq0 hq hne => by
  unfold World.cell?
  rw [aC.block q.block (by omega) (by simp only [List.mem_singleton]; omega), ag.block q.block (by rw [World.size_alloc]; omega) hne, Below.heap_alloc _ _ _ hq]
 have gJ : ∀ c, c < w2.heap.size → v.ownBlock ≠ some c → v'.ownBlock ≠ some c := fun c hc hne e => by
  rcases hv with hv | hv
  ·exact hne (by rw [← hv, e])
  ·rw [e] at hv
   injection hv with hv
   omega
 have hsz5 : (w3.setCell ⟨bx, f, none⟩ v').heap.size = w3.heap.size := by simp [World.setCell]
 have hold : cK F w2 (fun b => Wi.heap.size ≤ b ∧ b < w2.heap.size ∧ v.ownBlock ≠ some b) l xs := h.rows.imp fun y cy hy => hF _ _ _ _ _ _ (fun c hc => ⟨hc.1, by have := hc.2.1; omega, hc.2.2⟩) (fun q hq => by
  unfold World.cell?
  rw [hc.block q.block hq.2.1 (by simp only [List.mem_singleton]; have := hq.1; omega)]) hy
 have hp1 : F w2 (fun b => Wi.heap.size ≤ b ∧ b < w2.heap.size ∧ v.ownBlock ≠ some b) x ys := hF _ _ _ _ _ _ (fun c hc => by
  have h0 : wr.heap.size ≤ c := hc.1
  exact ⟨by omega, hc.2, fun e => by have := (h.own.lt c e).2; omega⟩) (fun _ _ => rfl) hx
 refine ⟨?_, ?_, hj, ?_, bY ai aC (fun i hi hm => by have := (ai.lt i hi).1; simp only [List.mem_singleton] at hm; omega), (cK.append hp1 hold).imp fun y cy hy => hF _ _ _ _ _ _ (fun c hc => ⟨hc.1, by rw [hsz5]; have := hc.2.1; omega, gJ c hc.2.1 hc.2.2⟩) (fun q hq => hcell3 q hq.1 hq.2.1 (fun e => hq.2.2 e.symm)) hy, h.inv.next hj hg⟩
 ·have h5 := (((h.mid hc hr).alloc (.cells ys.toArray te)).grown ag (fun i hi => (hown2.lt i hi).1) bE).set_ f v'
  simpa using h5
 ·exact ((((h.ch.trans (hc.mono (by simp))).alloc _).grown ag (fun i hi => (hown2.lt i hi).1))).trans (aC.mono (by simp))
 ·rw [List.length_append, h.hl]
  rfl
end
theorem sQ.bad {α : Type} {F : World → (Nat → Prop) → α → List Value → Prop} {kF : Nat} {get : Rdr α} {f : Nat} {w Wi wr : World} {g n at1 : Nat} {all : List Nat} {b1 bad : Bool} {bx : Nat} {t : TypeId} {cs : Array Value} {at' : Nat} {b' : Bool} {l : List α} {v : Value} (h : sQ F kF get f w Wi wr g n at1 all b1 bx t cs at' b' l v) (hm : bad = true → b1 = true) (hb : bad = true) : b' = true := h.inv.1 (hm hb)
theorem sQ.got {α : Type} {F : World → (Nat → Prop) → α → List Value → Prop} {kF : Nat} {get : Rdr α} {f : Nat} {w Wi wr : World} {g n at0 at1 : Nat} {all : List Nat} {b1 bad : Bool} {bx : Nat} {t : TypeId} {cs : Array Value} {at' : Nat} {b' : Bool} {l : List α} {v : Value} (h : sQ F kF get f w Wi wr g n at1 all b1 bx t cs at' b' l v) (hm : bad = false → match countR (all.drop at0) with
 | some (m, r) => n = m ∧ b1 = false ∧ all.drop at1 = r
 | none => b1 = true) (hb : bad = false) : eT l b' (all.drop at') (someR get (all.drop at0)) := vN hm h.inv h.full hb
structure sP {α : Type} (F : World → (Nat → Prop) → α → List Value → Prop) (kF : Nat) (te : TypeId) (get : Rdr α) (Wi wr : World) (g n at1 : Nat) (all : List Nat) (b1 : Bool) (j at' : Nat) (b' : Bool) (l : List α) (v : Value) (xs : List Value) : Prop where
 gw : g < Wi.heap.size
 rd : RS wr g all at' b'
 ch : av [g] Wi wr
 hj : j ≤ n
 hl : l.length = j
 own : wr.ownsRow Wi.heap.size te kF v j xs
 rows : cK F wr (fun b => Wi.heap.size ≤ b ∧ b < wr.heap.size ∧ v.ownBlock ≠ some b) l xs
 inv : nS get n at1 all b1 b' l j at'
structure TN {α : Type} (F : World → (Nat → Prop) → α → List Value → Prop) (kF : Nat) (get : Rdr α) (Wi wr : World) (g n at1 : Nat) (all : List Nat) (b1 : Bool) (at' : Nat) (b' : Bool) (l : List α) (v : Value) : Prop where
 rd : RS wr g all at' b'
 ch : av [g] Wi wr
 sl : dw F kF wr (dW Wi wr) l v
 inv : nS get n at1 all b1 b' l l.length at'
 full : l.length = n ∨ b' = true
section
variable {α : Type} {F : World → (Nat → Prop) → α → List Value → Prop} {kF : Nat} {te : TypeId} {get : Rdr α} {Wi wr w2 w3 : World} {g n at1 : Nat} {all : List Nat} {b1 : Bool} {j at' at5 : Nat} {b' b5 : Bool} {l : List α} {v v' : Value} {xs ys : List Value} {x : α}
theorem sP.start (h : RS Wi g all at1 b1) : sP F kF te get Wi Wi g n at1 all b1 0 at1 b1 [] (.slice none 0 0) [] :=
 ⟨h.lt, h, av.refl _ _, Nat.zero_le _, rfl, World.ownsRow_nil _ _ _ _, rfl, nS.start _ _ _ _ _⟩
theorem sP.fin (hF : iU F) (h : sP F kF te get Wi wr g n at1 all b1 j at' b' l v xs) (hj : j = n ∨ b' = true) : TN F kF get Wi wr g n at1 all b1 at' b' l v := by
 have ho := h.own
 rw [← h.hl] at ho
 exact ⟨h.rd, h.ch, ER hF ho h.rows, by rw [h.hl]; exact h.inv, by rw [h.hl]; exact hj⟩
theorem sP.own2 (h : sP F kF te get Wi wr g n at1 all b1 j at' b' l v xs) (hc : av [g] wr w2) : w2.ownsRow Wi.heap.size te kF v j xs :=
 bY h.own hc fun i hi hm => by
  have h1 := (h.own.lt i hi).1
  have h2 := h.gw
  simp only [List.mem_singleton] at hm
  omega
theorem sP.next (hF : iU F) (h : sP F kF te get Wi wr g n at1 all b1 j at' false l v xs) (hj : j < n) (hc : av [g] wr w2) (hr : RS w2 g all at5 b5) (hx : F w2 (dW wr w2) x ys) (hg : eT x b5 (all.drop at5) (get (all.drop at')))
 (ai : w3.ownsRow Wi.heap.size te kF v' (j + 1) (xs ++ ys)) (ag : (w2.alloc (.cells ys.toArray te)).grownBy w3 v.ownBlock) (hv : v'.ownBlock = v.ownBlock ∨ v'.ownBlock = some (w2.alloc (.cells ys.toArray te)).heap.size) :
 sP F kF te get Wi w3 g n at1 all b1 (j + 1) at5 b5 (l ++ [x]) v' (xs ++ ys) := by
 have hsz0 := h.ch.size
 have hsz2 := hc.size
 have hsz3 := ag.size
 simp only [World.size_alloc] at hsz3 hv
 have hgw := h.gw
 have hown2 := h.own2 hc
 have hcell3 : ∀ q : Addr, q.block < w2.heap.size → some q.block ≠ v.ownBlock → w3.cell? q = w2.cell? q := fun q hq hne => by
  unfold World.cell?
  rw [ag.block q.block (by rw [World.size_alloc]; omega) hne, Below.heap_alloc _ _ _ hq]
 have gJ : ∀ c, c < w2.heap.size → v.ownBlock ≠ some c → v'.ownBlock ≠ some c := fun c hc hne e => by
  rcases hv with hv | hv
  ·exact hne (by rw [← hv, e])
  ·rw [e] at hv
   injection hv with hv
   omega
 have hold : cK F w2 (fun b => Wi.heap.size ≤ b ∧ b < w2.heap.size ∧ v.ownBlock ≠ some b) l xs := h.rows.imp fun y cy hy => hF _ _ _ _ _ _ (fun c hc => ⟨hc.1, by have := hc.2.1; omega, hc.2.2⟩) (fun q hq => by
  unfold World.cell?
  rw [hc.block q.block hq.2.1 (by simp only [List.mem_singleton]; have := hq.1; omega)]) hy
 have hp1 : F w2 (fun b => Wi.heap.size ≤ b ∧ b < w2.heap.size ∧ v.ownBlock ≠ some b) x ys := hF _ _ _ _ _ _ (fun c hc => by
  have h0 : wr.heap.size ≤ c := hc.1
  exact ⟨by omega, hc.2, fun e => by have := (h.own.lt c e).2; omega⟩) (fun _ _ => rfl) hx
 refine ⟨hgw, (hr.alloc _).grown ag (fun k hk => by have := (hown2.lt k hk).1; omega), ((h.ch.trans hc).alloc _).grown ag (fun k hk => (hown2.lt k hk).1), hj, ?_, ai, (cK.append hp1 hold).imp fun y cy hy => hF _ _ _ _ _ _ (fun c hc => ⟨hc.1, by have := hc.2.1; omega, gJ c hc.2.1 hc.2.2⟩) (fun q hq => hcell3 q hq.2.1 (fun e => hq.2.2 e.symm)) hy, h.inv.next hj hg⟩
 rw [List.length_append, h.hl]
 rfl
end
end Go.Proofs.YtmepaeahchiglaaGreatDoor
namespace Go.Proofs.YtmepaeahchiglaaGreatDoor
def iK : Code → List Code
 | .loop c => c :: iK c
 | .seq a b => iK a ++ iK b
 | .cond _ a b => iK a ++ iK b
 | .block _ c => iK c
 | .scope c => iK c
 | .rangeFunc _ _ a b => iK a ++ iK b
 | _ => []
def mO (f : Func) (k : Nat) : Code := ((f.body.map iK).getD []).getD k .skip
open Go.Lib Go.RowKit
noncomputable def xP : Code := mO Tryz.f16 0
theorem sget1 (Q0 : Exit → Act → World → Prop) (kV : ∀ c (a : Act) d v w, Q0 (.panic c) (a.put (some d) v) w → Q0 (.panic c) a w) (w Wi : World) (g n at1 bx : Nat) (all : List Nat) (b1 : Bool)
 (u0 u1 u2 u3 u4 u5 u6 c0 c1 c2 c3 c4 c9 c10 c11 c12 c13 c14 c15 c16 c17 c18 c19 c20 c21 c22 c23 c24 c25 c26 c27 c28 c29 c30 c31 c32 c33 c34 c35 c36 c37 c38 c39 c40 c41 c42 c43 c44 c45 c46 c47 c48 c49 c50 c51 c52 c53 c54 c55 c56 c57 c58 c59 c60 c61 c62 c63 c64 c65 c66 c67 c68 c69 c70 c71 c72 c73 c74 c75 c76 c77 c78 c79 c80 c81 c82 c83 c84 c85 c86 c87 c88 c89 c90 c91 c92 c93 : Value)
 (hn30 : n ≤ 1073741824) (h : qz w Wi g at1 all b1 bx 33 #[u0, u1, u2, u3, u4, u5, u6, .slice none 0 0]) (bE : bx < Wi.heap.size)
 (fe : ∀ (d8 d9 d51 d52 d53 d54 d55 d56 d57 d58 d59 d60 d61 d62 d63 d64 d65 d66 d67 d68 d69 d70 d71 d72 d73 : Value) (wr : World) (at' : Nat) (b' : Bool) (l : List (En)) (v : Value), sQ xB 2 Ce 7 w Wi wr g n at1 all b1 bx 33 #[u0, u1, u2, u3, u4, u5, u6, .slice none 0 0] at' b' l v → Q0 (.exit 0) ⟨List.toArray (c0 :: c1 :: c2 :: c3 :: c4 :: af g :: .pointer (some ⟨bx, 0, none⟩) :: .int .i64 (n : Nat) :: d8 :: d9 :: c10 :: c11 :: c12 :: c13 :: c14 :: c15 :: c16 :: c17 :: c18 :: c19 :: c20 :: c21 :: c22 :: c23 :: c24 :: c25 :: c26 :: c27 :: c28 :: c29 :: c30 :: c31 :: c32 :: c33 :: c34 :: c35 :: c36 :: c37 :: c38 :: c39 :: c40 :: c41 :: c42 :: c43 :: c44 :: c45 :: c46 :: c47 :: c48 :: c49 :: c50 :: d51 :: d52 :: d53 :: d54 :: d55 :: d56 :: d57 :: d58 :: d59 :: d60 :: d61 :: d62 :: d63 :: d64 :: d65 :: d66 :: d67 :: d68 :: d69 :: d70 :: d71 :: d72 :: d73 :: c74 :: c75 :: c76 :: c77 :: c78 :: c79 :: c80 :: c81 :: c82 :: c83 :: c84 :: c85 :: c86 :: c87 :: c88 :: c89 :: c90 :: c91 :: c92 :: c93 :: []), []⟩ wr) :
 Code.wp Tryz.prog (.loop xP) Q0 ⟨List.toArray (c0 :: c1 :: c2 :: c3 :: c4 :: af g :: .pointer (some ⟨bx, 0, none⟩) :: .int .i64 (n : Nat) :: .int .i64 0 :: c9 :: c10 :: c11 :: c12 :: c13 :: c14 :: c15 :: c16 :: c17 :: c18 :: c19 :: c20 :: c21 :: c22 :: c23 :: c24 :: c25 :: c26 :: c27 :: c28 :: c29 :: c30 :: c31 :: c32 :: c33 :: c34 :: c35 :: c36 :: c37 :: c38 :: c39 :: c40 :: c41 :: c42 :: c43 :: c44 :: c45 :: c46 :: c47 :: c48 :: c49 :: c50 :: c51 :: c52 :: c53 :: c54 :: c55 :: c56 :: c57 :: c58 :: c59 :: c60 :: c61 :: c62 :: c63 :: c64 :: c65 :: c66 :: c67 :: c68 :: c69 :: c70 :: c71 :: c72 :: c73 :: c74 :: c75 :: c76 :: c77 :: c78 :: c79 :: c80 :: c81 :: c82 :: c83 :: c84 :: c85 :: c86 :: c87 :: c88 :: c89 :: c90 :: c91 :: c92 :: c93 :: []), []⟩ Wi := by
 obtain ⟨i0, hi, hz0, hz1, hz2⟩ := info_parts (show (Tryz.prog.info? 84).map (fun i => (i.zero, i.size, i.bytes)) = some (some (.agg #[.string ⟨#[]⟩, .slice none 0 0]), 2, 40) by kernel_rfl)
 unfold xP
 conv => arg 2; arg 1; whnf
 have HS := qh h; have nk := qh fe; have gK := qh kV
 clear h fe kV
 go_loopw [8] (fun i wr => ∃ k at' : Nat, ∃ b' : Bool, ∃ l : List (En), ∃ v : Value, ∃ xs : List Value, i = .int .i64 k ∧ fO xB 2 84 Ce 7 w Wi wr g n at1 all b1 bx 33 #[u0, u1, u2, u3, u4, u5, u6, .slice none 0 0] k at' b' l v xs) (fun i _ => n - (Lib.intOf i).toNat)
 case atStart => exact ⟨0, at1, b1, [], _, [], rfl, fO.start HS.out (by simp) rfl⟩
 case round =>
  obtain ⟨k, at', b', l, v, xs, rfl, hR⟩ := hrel
  obtain ⟨A5, c5, rfl, -, -⟩ := ownsRow_form hR.own
  obtain ⟨A, c, ⟨c0, c1, c2⟩, ⟨f0, f1, f2⟩, -, -, -⟩ := hR.st.rd.cells
  have hk := hR.hj
  have hsz := hR.ch.size
  have hgw := hR.st.gw; have hgb := hR.st.hb
  have HR := qh hR
  clear hR c0 c1 f0 f1 f2
  by_cases hkn : k < n
  ·have cB : (k : Int) < n := by omega
   cases b' with
   | true =>
     have HL := qh (HR.out.fin jY (.inr rfl))
     clear HR HS
     go_wp2
     exact nk.out _ _ _ _ _ _ _ _ _ _ _ _ _ _ _ _ _ _ _ _ _ _ _ _ _ _ _ _ _ _ HL.out
   | false =>
     have aj := qh (ji wr g at' all false HR.out.st.rd)
     go_wp2_with fail
     refine aj.out.mono ?_
     rintro e wa ⟨x, Fu, ba, rfl, -, qd, hra, -, ga⟩
     have KY := qh (show eT x ba (all.drop Fu) (bg (all.drop at')) from ga rfl)
     have hd := (HR.out.mid qd hra).drew
     have DZ := qd.size
     have hq := hd.bb.cell 7
     simp only [gq1, gq2] at hq
     have HD := qh hd; have gV := qh (uk wa.drew g Fu all ba hd.rd); have FI := qh qd
     clear hd qd hra ga aj c2
     go_wp2
     refine wp_region_held_drew (S := fun _ => True) (by kernel_rfl) trivial (fun ah => ?_)
     refine wpAnyH_take (i := 0) (v := ?_) rfl (by kernel_rfl) (by kernel_rfl) (by kernel_rfl) (fun _ _ _ h => gK.out _ _ _ _ _ h) (Or.inl ⟨by rfl, ?_⟩) trivial ?_
     rotate_left
     ·intro w hSw
      go_simp <;> with_reducible rfl
     try simp only [Act.put, gq3, gq1]
     refine wpAnyH_take (i := 2) (v := ?_) rfl (by kernel_rfl) (by kernel_rfl) (by kernel_rfl) (fun _ _ _ h => gK.out _ _ _ _ _ h) (Or.inl ⟨by rfl, ?_⟩) trivial ?_
     rotate_left
     ·intro w hSw
      go_simp <;> with_reducible rfl
     try simp only [Act.put, gq3, gq1]
     refine wpAnyH_take (i := 3) (v := ?_) rfl (by kernel_rfl) (by kernel_rfl) (by kernel_rfl) (fun _ _ _ h => gK.out _ _ _ _ _ h) (Or.inl ⟨by rfl, ?_⟩) trivial ?_
     rotate_left
     ·intro w hSw
      go_simp <;> with_reducible rfl
     try simp only [Act.put, gq3, gq1]
     refine rdJ 1 4 (fun K hK => ?_) fun K hK => ?_
     focus
      go_simp
      refine hK.out _ _ trivial (fun _ => ?_)
      clear hK K
      refine rdH 4 fun K hK => ?_
      go_simp
      (try go_wp2_with fail)
      refine gV.out.mono ?_
      rintro e w2 ⟨s, v6, at2, b2, rfl, hsl, hc2, hr2, m2, g2⟩
      obtain ⟨A6, c6, rfl⟩ := hsl.form
      have nT := qh (show xB w2 (dW wr w2) ⟨x, s⟩ [.string x, .slice A6 s.length c6] from ⟨_, rfl, dw.pQ dL hsl FI.out.size⟩)
      have HG := qh (show eT ⟨x, s⟩ b2 (all.drop at2) (Ce (all.drop at')) from ak KY.out m2 fun k => ak (g2 k) id fun k2 => dO k2)
      clear m2 g2 hsl
      have hd2 := HD.out.aB hc2 hr2
      have ht2 := hd2.bb.cell 7
      have hsz2 := hc2.size
      have hc2 : av [g] wr w2 := FI.out.trans ((av.refl _ _).drew.trans hc2)
      have hsz20 := hc2.size
      have aL := qh (HR.out.own2 bE hc2)
      have ig := qh hc2; have HR2 := qh hr2
      have hd3 := hd2.alloc (.cells ([.string x, .slice A6 s.length c6] : List Value).toArray 84)
      have ht3 := hd3.bb.cell 7
      simp only [gq1, gq2] at ht2 ht3
      have HD3 := qh hd3
      have dR := qh (az w2 84 [.string x, .slice A6 s.length c6] 2 1 rfl)
      clear hc2 hr2 hd2 hd3
      (try go_simp)
      refine hK.out _ _ trivial (fun _ => ?_)
      clear hK K
      refine wpAnyH_take (i := 5) (v := ?_) rfl (by kernel_rfl) (by kernel_rfl) (by kernel_rfl) (fun _ _ _ h => gK.out _ _ _ _ _ h) (Or.inl ⟨by rfl, ?_⟩) trivial ?_
      rotate_left
      ·intro w hSw
       go_simp <;> with_reducible rfl
      try simp only [Act.put, gq3, gq1]
      refine rdH 6 fun K hK => ?_
      go_simp
      refine hK.out _ _ trivial (fun _ => ?_)
      clear hK K
     rotate_left
     focus
      go_simp
      (try go_wp2_with fail)
      refine gV.out.mono ?_
      rintro e w2 ⟨s, v6, at2, b2, rfl, hsl, hc2, hr2, m2, g2⟩
      obtain ⟨A6, c6, rfl⟩ := hsl.form
      have nT := qh (show xB w2 (dW wr w2) ⟨x, s⟩ [.string x, .slice A6 s.length c6] from ⟨_, rfl, dw.pQ dL hsl FI.out.size⟩)
      have HG := qh (show eT ⟨x, s⟩ b2 (all.drop at2) (Ce (all.drop at')) from ak KY.out m2 fun k => ak (g2 k) id fun k2 => dO k2)
      clear m2 g2 hsl
      have hd2 := HD.out.aB hc2 hr2
      have ht2 := hd2.bb.cell 7
      have hsz2 := hc2.size
      have hc2 : av [g] wr w2 := FI.out.trans ((av.refl _ _).drew.trans hc2)
      have hsz20 := hc2.size
      have aL := qh (HR.out.own2 bE hc2)
      have ig := qh hc2; have HR2 := qh hr2
      have hd3 := hd2.alloc (.cells ([.string x, .slice A6 s.length c6] : List Value).toArray 84)
      have ht3 := hd3.bb.cell 7
      simp only [gq1, gq2] at ht2 ht3
      have HD3 := qh hd3
      have dR := qh (az w2 84 [.string x, .slice A6 s.length c6] 2 1 rfl)
      clear hc2 hr2 hd2 hd3
      (try go_simp)
      refine hK.out _ _ trivial (fun _ => ?_)
      clear hK K
      refine wpAnyH_take (i := 5) (v := ?_) rfl (by kernel_rfl) (by kernel_rfl) (by kernel_rfl) (fun _ _ _ h => gK.out _ _ _ _ _ h) (Or.inl ⟨by rfl, ?_⟩) trivial ?_
      rotate_left
      ·intro w hSw
       go_simp <;> with_reducible rfl
      try simp only [Act.put, gq3, gq1]
      refine rdJ 1 6 (fun K hK => ?_) fun K hK => ?_
      rotate_left
      focus
       go_simp
       refine hK.out _ _ trivial (fun _ => ?_)
       clear hK K
       refine rdH 1 fun K hK => ?_
       go_simp
       refine hK.out _ _ trivial (fun _ => ?_)
       clear hK K
      rotate_left
      focus
       go_simp
       refine hK.out _ _ trivial (fun _ => ?_)
       clear hK K
       refine rdH 6 fun K hK => ?_
       go_simp
       refine hK.out _ _ trivial (fun _ => ?_)
       clear hK K
     all_goals
      refine rdH 7 fun K hK => ?_
      refine step_append_any _ (by rfl) (.tmp 66) (.tmp 71) 31 (by rfl) Wi.heap.size 84 i0 (.agg #[.string ⟨#[]⟩, .slice none 0 0]) 2 40 Tryz.underlying31 hi hz0 hz1 hz2 (by rfl) (by decide) (.slice A5 k c5) k xs (by simp [Act.eval, Act.put]) (aL.out.alloc _) (w2.heap.size + 1) (some ⟨w2.heap.size, 0, none⟩) 1 1 [.string x, .slice A6 s.length c6] (by simp [Act.eval, Act.put]) dR.out (by intro u hu; simp only [List.mem_cons, List.not_mem_nil, or_false] at hu; rcases hu with rfl | rfl <;> rfl) (by unfold maxLen; omega) (by omega) (by simp; omega) ?_
      intro v' w3 ai ag bK
      obtain ⟨A7, c7, rfl, hk7, hc7⟩ := ownsRow_form ai
      have hd4 := HD3.out.grown ag (fun j hj => (aL.out.lt j hj).1) bE
      have ht4 := hd4.bb.cell 7
      have hf4 := hd4.bb.frozen 7
      simp only [gq1, gq2] at ht4
      have HN := qh (fO.next jY HR.out hkn bE ig.out HR2.out nT.out HG.out ai ag bK)
      clear hd4 ag bK ai hk7 hc7
      refine hK.out _ _ trivial (fun _ => ?_)
      clear hK K
      refine wpAnyH_take (i := 8) (v := ?_) rfl (by kernel_rfl) (by kernel_rfl) (by kernel_rfl) (fun _ _ _ h => gK.out _ _ _ _ _ h) (Or.inl ⟨by rfl, ?_⟩) trivial ?_
      rotate_left
      ·intro w hSw
       go_simp <;> with_reducible rfl
      try simp only [Act.put, gq3, gq1]
      refine rdH 9 fun K hK => ?_
      go_simp
      refine hK.out _ _ trivial (fun _ => ?_)
      clear hK K
      refine wpAnyH_done (by kernel_rfl) ?_ _
      clear hq ht2 ht3 ht4 hf4
      go_wp2
      go_roundw
      case rel => exact ⟨k + 1, at2, b2, l ++ [⟨x, s⟩], _, _, by go_num, HN.out⟩
      case measure => simp [Lib.intOf]; omega
  ·obtain rfl : k = n := by omega
   have HL := qh (HR.out.fin jY (.inl rfl))
   clear HR HS
   go_wp2
   exact nk.out _ _ _ _ _ _ _ _ _ _ _ _ _ _ _ _ _ _ _ _ _ _ _ _ _ _ _ _ _ _ HL.out
noncomputable def rM : Code := mO Tryz.f48 0
theorem snames1 (Q0 : Exit → Act → World → Prop) (kV : ∀ c (a : Act) d v w, Q0 (.panic c) (a.put (some d) v) w → Q0 (.panic c) a w) (w Wi : World) (g n at1 bx : Nat) (all : List Nat) (b1 : Bool)
 (u1 u2 u3 u4 u5 u6 u7 c1 c2 c4 c7 c8 c9 c10 c11 c12 c13 c14 c15 c16 c17 c18 c19 c20 c21 c22 c23 c24 c25 c26 c27 c28 c29 c30 c31 c32 c33 c34 c35 c36 c37 c38 c39 c40 c41 c42 c43 c44 c45 c46 c47 c48 c49 c50 c51 c52 c53 c54 c55 c56 c57 c58 c59 c60 c61 c62 c63 c64 c65 c66 c67 c68 c69 c70 c71 c72 c73 c74 c75 c76 c77 c78 c79 c80 c81 c82 c83 c84 c85 c86 : Value)
 (hn30 : n ≤ 1073741824) (h : qz w Wi g at1 all b1 bx 33 #[.slice none 0 0, u1, u2, u3, u4, u5, u6, u7]) (bE : bx < Wi.heap.size)
 (fe : ∀ (d6 d13 d14 d15 d16 d17 d18 d19 d20 d21 d22 d23 d24 d25 d26 d27 d28 d29 d30 d31 : Value) (wr : World) (at' : Nat) (b' : Bool) (l : List (ByteArray)) (v : Value), sQ xm 1 bg 0 w Wi wr g n at1 all b1 bx 33 #[.slice none 0 0, u1, u2, u3, u4, u5, u6, u7] at' b' l v → Q0 (.exit 0) ⟨List.toArray (af g :: c1 :: c2 :: .pointer (some ⟨bx, 0, none⟩) :: c4 :: .int .i64 (n : Nat) :: d6 :: c7 :: c8 :: c9 :: c10 :: c11 :: c12 :: d13 :: d14 :: d15 :: d16 :: d17 :: d18 :: d19 :: d20 :: d21 :: d22 :: d23 :: d24 :: d25 :: d26 :: d27 :: d28 :: d29 :: d30 :: d31 :: c32 :: c33 :: c34 :: c35 :: c36 :: c37 :: c38 :: c39 :: c40 :: c41 :: c42 :: c43 :: c44 :: c45 :: c46 :: c47 :: c48 :: c49 :: c50 :: c51 :: c52 :: c53 :: c54 :: c55 :: c56 :: c57 :: c58 :: c59 :: c60 :: c61 :: c62 :: c63 :: c64 :: c65 :: c66 :: c67 :: c68 :: c69 :: c70 :: c71 :: c72 :: c73 :: c74 :: c75 :: c76 :: c77 :: c78 :: c79 :: c80 :: c81 :: c82 :: c83 :: c84 :: c85 :: c86 :: []), []⟩ wr) :
 Code.wp Tryz.prog (.loop rM) Q0 ⟨List.toArray (af g :: c1 :: c2 :: .pointer (some ⟨bx, 0, none⟩) :: c4 :: .int .i64 (n : Nat) :: .int .i64 0 :: c7 :: c8 :: c9 :: c10 :: c11 :: c12 :: c13 :: c14 :: c15 :: c16 :: c17 :: c18 :: c19 :: c20 :: c21 :: c22 :: c23 :: c24 :: c25 :: c26 :: c27 :: c28 :: c29 :: c30 :: c31 :: c32 :: c33 :: c34 :: c35 :: c36 :: c37 :: c38 :: c39 :: c40 :: c41 :: c42 :: c43 :: c44 :: c45 :: c46 :: c47 :: c48 :: c49 :: c50 :: c51 :: c52 :: c53 :: c54 :: c55 :: c56 :: c57 :: c58 :: c59 :: c60 :: c61 :: c62 :: c63 :: c64 :: c65 :: c66 :: c67 :: c68 :: c69 :: c70 :: c71 :: c72 :: c73 :: c74 :: c75 :: c76 :: c77 :: c78 :: c79 :: c80 :: c81 :: c82 :: c83 :: c84 :: c85 :: c86 :: []), []⟩ Wi := by
 obtain ⟨i0, hi, hz0, hz1, hz2⟩ := info_parts (show (Tryz.prog.info? 9).map (fun i => (i.zero, i.size, i.bytes)) = some (some (.string ⟨#[]⟩), 1, 16) by kernel_rfl)
 unfold rM
 conv => arg 2; arg 1; whnf
 have HS := qh h; have nk := qh fe; have gK := qh kV
 clear h fe kV
 go_loopw [6] (fun i wr => ∃ k at' : Nat, ∃ b' : Bool, ∃ l : List (ByteArray), ∃ v : Value, ∃ xs : List Value, i = .int .i64 k ∧ fO xm 1 9 bg 0 w Wi wr g n at1 all b1 bx 33 #[.slice none 0 0, u1, u2, u3, u4, u5, u6, u7] k at' b' l v xs) (fun i _ => n - (Lib.intOf i).toNat)
 case atStart => exact ⟨0, at1, b1, [], _, [], rfl, fO.start HS.out (by simp) rfl⟩
 case round =>
  obtain ⟨k, at', b', l, v, xs, rfl, hR⟩ := hrel
  obtain ⟨A5, c5, rfl, -, -⟩ := ownsRow_form hR.own
  obtain ⟨A, c, ⟨c0, c1, c2⟩, ⟨f0, f1, f2⟩, -, -, -⟩ := hR.st.rd.cells
  have hk := hR.hj
  have hsz := hR.ch.size
  have hgw := hR.st.gw; have hgb := hR.st.hb
  have HR := qh hR
  clear hR c0 c1 f0 f1 f2
  by_cases hkn : k < n
  ·have cB : (k : Int) < n := by omega
   cases b' with
   | true =>
     have HL := qh (HR.out.fin (aa _) (.inr rfl))
     clear HR HS
     go_wp2
     exact nk.out _ _ _ _ _ _ _ _ _ _ _ _ _ _ _ _ _ _ _ _ _ _ _ _ _ HL.out
   | false =>
     have hd := HR.out.st.drew
     have hq := hd.bb.cell 0
     simp only [gq1, gq2] at hq
     have HD := qh hd; have aj := qh (ji wr.drew g at' all false hd.rd)
     clear hd
     go_wp2
     refine wp_region_held_drew (S := fun _ => True) (by kernel_rfl) trivial (fun ah => ?_)
     refine wpAnyH_take (i := 0) (v := ?_) rfl (by kernel_rfl) (by kernel_rfl) (by kernel_rfl) (fun _ _ _ h => gK.out _ _ _ _ _ h) (Or.inl ⟨by rfl, ?_⟩) trivial ?_
     rotate_left
     ·intro w hSw
      go_simp <;> with_reducible rfl
     try simp only [Act.put, gq3, gq1]
     refine wpAnyH_take (i := 2) (v := ?_) rfl (by kernel_rfl) (by kernel_rfl) (by kernel_rfl) (fun _ _ _ h => gK.out _ _ _ _ _ h) (Or.inl ⟨by rfl, ?_⟩) trivial ?_
     rotate_left
     ·intro w hSw
      go_simp <;> with_reducible rfl
     try simp only [Act.put, gq3, gq1]
     refine rdJ 1 3 (fun K hK => ?_) fun K hK => ?_
     focus
      go_simp
      refine hK.out _ _ trivial (fun _ => ?_)
      clear hK K
      refine rdH 3 fun K hK => ?_
      go_simp
      (try go_wp2_with fail)
      refine aj.out.mono ?_
      rintro e w2 ⟨x, at2, b2, rfl, -, hc2, hr2, m2, g2⟩
      have HG := qh (show eT x b2 (all.drop at2) (bg (all.drop at')) from g2 rfl)
      clear m2 g2
      have hd2 := HD.out.aB hc2 hr2
      have ht2 := hd2.bb.cell 0
      have hsz2 := hc2.size
      have hc2 : av [g] wr w2 := (av.refl _ _).drew.trans hc2
      have hsz20 := hc2.size
      have aL := qh (HR.out.own2 bE hc2)
      have ig := qh hc2; have HR2 := qh hr2
      have hd3 := hd2.alloc (.cells ([.string x] : List Value).toArray 9)
      have ht3 := hd3.bb.cell 0
      simp only [gq1, gq2] at ht2 ht3
      have HD3 := qh hd3
      have dR := qh (az w2 9 [.string x] 1 1 rfl)
      clear hc2 hr2 hd2 hd3
      (try go_simp)
      refine hK.out _ _ trivial (fun _ => ?_)
      clear hK K
      refine rdH 4 fun K hK => ?_
      go_simp
      refine hK.out _ _ trivial (fun _ => ?_)
      clear hK K
     rotate_left
     focus
      go_simp
      (try go_wp2_with fail)
      refine aj.out.mono ?_
      rintro e w2 ⟨x, at2, b2, rfl, -, hc2, hr2, m2, g2⟩
      have HG := qh (show eT x b2 (all.drop at2) (bg (all.drop at')) from g2 rfl)
      clear m2 g2
      have hd2 := HD.out.aB hc2 hr2
      have ht2 := hd2.bb.cell 0
      have hsz2 := hc2.size
      have hc2 : av [g] wr w2 := (av.refl _ _).drew.trans hc2
      have hsz20 := hc2.size
      have aL := qh (HR.out.own2 bE hc2)
      have ig := qh hc2; have HR2 := qh hr2
      have hd3 := hd2.alloc (.cells ([.string x] : List Value).toArray 9)
      have ht3 := hd3.bb.cell 0
      simp only [gq1, gq2] at ht2 ht3
      have HD3 := qh hd3
      have dR := qh (az w2 9 [.string x] 1 1 rfl)
      clear hc2 hr2 hd2 hd3
      (try go_simp)
      refine hK.out _ _ trivial (fun _ => ?_)
      clear hK K
      refine rdJ 1 4 (fun K hK => ?_) fun K hK => ?_
      rotate_left
      focus
       go_simp
       refine hK.out _ _ trivial (fun _ => ?_)
       clear hK K
       refine rdH 1 fun K hK => ?_
       go_simp
       refine hK.out _ _ trivial (fun _ => ?_)
       clear hK K
      rotate_left
      focus
       go_simp
       refine hK.out _ _ trivial (fun _ => ?_)
       clear hK K
       refine rdH 4 fun K hK => ?_
       go_simp
       refine hK.out _ _ trivial (fun _ => ?_)
       clear hK K
     all_goals
      refine rdH 5 fun K hK => ?_
      refine step_append_any _ (by rfl) (.tmp 26) (.tmp 29) 22 (by rfl) Wi.heap.size 9 i0 (.string ⟨#[]⟩) 1 16 Tryz.underlying22 hi hz0 hz1 hz2 (by rfl) (by decide) (.slice A5 k c5) k xs (by simp [Act.eval, Act.put]) (aL.out.alloc _) (w2.heap.size + 1) (some ⟨w2.heap.size, 0, none⟩) 1 1 [.string x] (by simp [Act.eval, Act.put]) dR.out (by intro u hu; rw [List.mem_singleton.1 hu]; rfl) (by unfold maxLen; omega) (by omega) (by simp; omega) ?_
      intro v' w3 ai ag bK
      obtain ⟨A7, c7, rfl, hk7, hc7⟩ := ownsRow_form ai
      have hd4 := HD3.out.grown ag (fun j hj => (aL.out.lt j hj).1) bE
      have ht4 := hd4.bb.cell 0
      have hf4 := hd4.bb.frozen 0
      simp only [gq1, gq2] at ht4
      have HN := qh (fO.next (aa _) HR.out hkn bE ig.out HR2.out rfl HG.out ai ag bK)
      clear hd4 ag bK ai hk7 hc7
      refine hK.out _ _ trivial (fun _ => ?_)
      clear hK K
      refine wpAnyH_take (i := 6) (v := ?_) rfl (by kernel_rfl) (by kernel_rfl) (by kernel_rfl) (fun _ _ _ h => gK.out _ _ _ _ _ h) (Or.inl ⟨by rfl, ?_⟩) trivial ?_
      rotate_left
      ·intro w hSw
       go_simp <;> with_reducible rfl
      try simp only [Act.put, gq3, gq1]
      refine rdH 7 fun K hK => ?_
      go_simp
      refine hK.out _ _ trivial (fun _ => ?_)
      clear hK K
      refine wpAnyH_done (by kernel_rfl) ?_ _
      clear hq ht2 ht3 ht4 hf4
      go_wp2
      go_roundw
      case rel => exact ⟨k + 1, at2, b2, l ++ [x], _, _, by go_num, HN.out⟩
      case measure => simp [Lib.intOf]; omega
  ·obtain rfl : k = n := by omega
   have HL := qh (HR.out.fin (aa _) (.inl rfl))
   clear HR HS
   go_wp2
   exact nk.out _ _ _ _ _ _ _ _ _ _ _ _ _ _ _ _ _ _ _ _ _ _ _ _ _ HL.out
end Go.Proofs.YtmepaeahchiglaaGreatDoor
