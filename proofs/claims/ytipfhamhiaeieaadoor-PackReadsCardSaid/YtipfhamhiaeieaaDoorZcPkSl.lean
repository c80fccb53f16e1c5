/-
  layer 43: the reference's law, read: its results. Conditions: bytes that can be read. (Printed by refrd3.py.)
-/
import Derived.Test.YtipfhamhiaeieaaDoorZcPkSp
import Derived.Test.YtipfhamhiaeieaaDoorZcPkLu
namespace Go.Proofs.YtipfhamhiaeieaaDoor
open Go.RowKit Go.Lib

/-- What the reference's reading of a law ends in. -/
def SLawPost (g : Nat) (all : List Nat) (bad : Bool) (w : World) (o : Option (Lw × List Nat)) (e : Ending) (w' : World) : Prop :=
  ∃ l cs at' bad', e = .returned (.agg cs.toArray) ∧ LawF w' (fun b => w.heap.size ≤ b ∧ b < w'.heap.size) l cs ∧ l.name.size ≤ 1073741824 ∧ Chg [g] w w' ∧ RS w' g all at' bad' ∧ (bad = true → bad' = true) ∧ (bad = false → Got l bad' (all.drop at') o)
/-- The results of a law, put together out of what was read. -/
theorem got_out {a c t u : Nat} {s : Snd} {b0 b1 b2 b3 b4 b5 : Bool} {r0 r1 r2 r3 r4 r5 : List Nat} (hb0 : b0 = false) (h1 : b0 = false → Got a b1 r1 (readN r0)) (m1 : b1 = true → b2 = true) (h2 : b1 = false → Got c b2 r2 (readN r1)) (m2 : b2 = true → b3 = true) (h3 : b2 = false → Got s b3 r3 (sndR r2)) (m3 : b3 = true → b4 = true) (h4 : b3 = false → Got t b4 r4 (readN r3)) (m4 : b4 = true → b5 = true) (h5 : b4 = false → Got u b5 r5 (readN r4)) :
    Got (⟨(a : Int) - 1, c, s, t, u⟩ : Ot) b5 r5 (outR r0) := by
  unfold outR
  refine got_then (h1 hb0) (fun h => m4 (m3 (m2 (m1 h)))) fun k1 => ?_
  refine got_then (h2 k1) (fun h => m4 (m3 (m2 h))) fun k2 => ?_
  refine got_then (h3 k2) (fun h => m4 (m3 h)) fun k3 => ?_
  refine got_then (h4 k3) m4 fun k4 => ?_
  exact got_then (h5 k4) id fun k5 => got_ret k5
theorem got_side {p : Pt} {lf : Nat} {b : Bool} {r bs : List Nat} (h : Got (p, lf) b r (patR 41 40 bs)) : Got p b r (sideR bs) :=
  got_then h id fun hb => got_ret hb
/-- A law, put together out of what was read. -/
theorem got_law {nm : ByteArray} {left right : Pt} {ifs : List Snd} {outs : List Ot} {mo : Nat} {b0 b1 b2 b3 b4 b5 b6 : Bool} {r0 r1 r2 r3 r4 r5 r6 : List Nat} (hb0 : b0 = false) (h1 : b0 = false → Got nm b1 r1 (textR r0)) (m1 : b1 = true → b2 = true) (h2 : b1 = false → Got left b2 r2 (sideR r1)) (m2 : b2 = true → b3 = true) (h3 : b2 = false → Got right b3 r3 (sideR r2)) (m3 : b3 = true → b4 = true) (h4 : b3 = false → Got ifs b4 r4 (wordR r3)) (m4 : b4 = true → b5 = true) (h5 : b4 = false → Got outs b5 r5 (someR outR r4)) (m5 : b5 = true → b6 = true) (h6 : b5 = false → Got mo b6 r6 (readN r5)) :
    Got (⟨nm, left, right, ifs, outs, mo⟩ : Lw) b6 r6 (lawR r0) := by
  unfold lawR
  refine got_then (h1 hb0) (fun h => m5 (m4 (m3 (m2 (m1 h))))) fun k1 => ?_
  refine got_then (h2 k1) (fun h => m5 (m4 (m3 (m2 h)))) fun k2 => ?_
  refine got_then (h3 k2) (fun h => m5 (m4 (m3 h))) fun k3 => ?_
  refine got_then (h4 k3) (fun h => m5 (m4 h)) fun k4 => ?_
  refine got_then (h5 k4) m5 fun k5 => ?_
  exact got_then (h6 k5) id fun k6 => got_ret k6

/-- The memory while a law is read: the result's block, the law's own. -/
structure LSt (w W : World) (g at_ : Nat) (all : List Nat) (bad : Bool) (bx : Nat) (cs : Array Value) : Prop where
  ch : Chg [g] w W
  rd : RS W g all at_ bad
  rs : Blk W w.heap.size 31 #[.string ⟨#[]⟩, .int .i64 0, .int .u32 0, .int .u32 0, .bool false, .int .i64 0, .int .i64 0, .slice none 0 0, .int .i64 0, .int .u32 0, .int .u32 0, .bool false, .int .i64 0, .int .i64 0, .slice none 0 0, .slice none 0 0, .slice none 0 0, .int .i64 0]
  bo : Blk W bx 31 cs
  gw : g < w.heap.size
  wb : w.heap.size < bx
section
variable {w W W' : World} {g at_ at' : Nat} {all : List Nat} {bad bad' : Bool} {bx : Nat} {cs : Array Value}
theorem LSt.chg (h : LSt w W g at_ all bad bx cs) (hc : Chg [g] W W') (hr : RS W' g all at' bad') : LSt w W' g at' all bad' bx cs := by
  have h1 := h.gw
  have h2 := h.wb
  exact ⟨h.ch.trans hc, hr, h.rs.chg hc (by simp; omega), h.bo.chg hc (by simp; omega), h1, h2⟩
theorem LSt.other {T : List Nat} (h : LSt w W g at_ all bad bx cs) (hc : Chg T W W') (ht : ∀ i ∈ T, bx < i) : LSt w W' g at_ all bad bx cs := by
  have h1 := h.gw
  have h2 := h.wb
  exact ⟨h.ch.new hc (fun i hi => .inr (by have := ht i hi; omega)), h.rd.chg hc (fun i hi => by have := ht i hi; omega), h.rs.chg hc (fun hm => by have := ht _ hm; omega), h.bo.chg hc (fun hm => by have := ht _ hm; omega), h1, h2⟩
theorem LSt.set_ (h : LSt w W g at_ all bad bx cs) (i : Nat) (u : Value) : LSt w (W.setCell ⟨bx, i, none⟩ u) g at_ all bad bx (cs.setIfInBounds i u) := by
  have h1 := h.gw
  have h2 := h.wb
  have hc : Chg [bx] W (W.setCell ⟨bx, i, none⟩ u) := (Chg.refl _ _).setCell (.inl (by simp)) u
  exact ⟨h.ch.new hc (fun j hj => .inr (by simp at hj; omega)), h.rd.chg hc (by simp; omega), h.rs.chg hc (by simp; omega), h.bo.set_ i u, h1, h2⟩
end
/-- What a law is made of beside its results, in blocks of S. -/
def LParts (W : World) (S : Nat → Prop) (left right : Pt) (q1 q2 : List Value) (A3 : Option Addr) (ifs : List Snd) : Prop := PatF W S left q1 ∧ PatF W S right q2 ∧ RowF W S 2 A3 ifs.length (ifs.flatMap sndC)
theorem LParts.keep {W W' : World} {S S' : Nat → Prop} {left right : Pt} {q1 q2 : List Value} {A3 : Option Addr} {ifs : List Snd} (h : LParts W S left right q1 q2 A3 ifs) (hs : ∀ b, S b → S' b) (hk : ∀ q : Addr, S q.block → W'.cell? q = W.cell? q) : LParts W' S' left right q1 q2 A3 ifs :=
  ⟨h.1.keep hs hk _ _, h.2.1.keep hs hk _ _, h.2.2.keep hs hk⟩
theorem PatF.atop {bx : Nat} {W W' : World} {T : List Nat} {p : Pt} {cs : List Value} (h : PatF W (fun b => bx < b ∧ b < W.heap.size) p cs) (hc : Chg T W W') (ht : ∀ i ∈ T, i ≤ bx) : PatF W' (fun b => bx < b ∧ b < W'.heap.size) p cs :=
  h.chg hc (fun b hb => ⟨hb.2, fun hm => by have := ht b hm; omega⟩) (fun b hb => ⟨hb.1, Nat.lt_of_lt_of_le hb.2 hc.size⟩)
theorem RowF.atop {bx k n : Nat} {W W' : World} {T : List Nat} {A : Option Addr} {xs : List Value} (h : RowF W (fun b => bx < b ∧ b < W.heap.size) k A n xs) (hc : Chg T W W') (ht : ∀ i ∈ T, i ≤ bx) : RowF W' (fun b => bx < b ∧ b < W'.heap.size) k A n xs :=
  h.keep (fun b hb => ⟨hb.1, Nat.lt_of_lt_of_le hb.2 hc.size⟩) (fun q hq => by
    unfold World.cell?
    rw [hc.block q.block hq.2 (fun hm => by have := ht q.block hm; omega)])
/-- The memory while results are read. -/
structure OuR (w W : World) (g at_ : Nat) (all : List Nat) (bad : Bool) (bx B0 j : Nat) (v : Value) (cs : Array Value) (outs : List Ot) (left right : Pt) (q1 q2 : List Value) (A3 : Option Addr) (ifs : List Snd) : Prop where
  st : LSt w W g at_ all bad bx cs
  own : W.ownsRow B0 60 6 v j (outs.flatMap outC)
  parts : LParts W (fun b => bx < b ∧ b < B0) left right q1 q2 A3 ifs
  hb : bx < B0
  hB : B0 ≤ W.heap.size
section
variable {w W W' : World} {g at_ at' : Nat} {all : List Nat} {bad bad' : Bool} {bx B0 j : Nat} {v : Value} {cs : Array Value} {outs : List Ot} {left right : Pt} {q1 q2 : List Value} {A3 : Option Addr} {ifs : List Snd}
theorem OuR.chg (h : OuR w W g at_ all bad bx B0 j v cs outs left right q1 q2 A3 ifs) (hc : Chg [g] W W') (hr : RS W' g all at' bad') : OuR w W' g at' all bad' bx B0 j v cs outs left right q1 q2 A3 ifs := by
  have h1 := h.st.gw
  have h2 := h.st.wb
  have h3 := h.hb
  have h4 := h.hB
  have h5 := hc.size
  refine ⟨h.st.chg hc hr, own_chg h.own hc (fun k hk hm => by have := (h.own.lt k hk).1; simp at hm; omega), h.parts.keep (fun b hb => hb) (fun q hq => ?_), h3, by omega⟩
  unfold World.cell?
  rw [hc.block q.block (by omega) (by simp; omega)]
theorem OuR.other {T : List Nat} (h : OuR w W g at_ all bad bx B0 j v cs outs left right q1 q2 A3 ifs) (hc : Chg T W W') (ht : ∀ i ∈ T, B0 ≤ i ∧ v.ownBlock ≠ some i) : OuR w W' g at_ all bad bx B0 j v cs outs left right q1 q2 A3 ifs := by
  have h3 := h.hb
  have h4 := h.hB
  have h5 := hc.size
  refine ⟨h.st.other hc (fun i hi => by have := (ht i hi).1; omega), own_chg h.own hc (fun k hk hm => (ht k hm).2 hk), h.parts.keep (fun b hb => hb) (fun q hq => ?_), h3, by omega⟩
  unfold World.cell?
  rw [hc.block q.block (by omega) (fun hm => by have := (ht _ hm).1; omega)]
/-- Behind the append: the row's slice is stored. -/
theorem OuR.grow {w4 : World} {o : Obj} {x : Ot} {v' : Value} (h : OuR w W g at_ all bad bx B0 j v cs outs left right q1 q2 A3 ifs) (hown' : w4.ownsRow B0 60 6 v' (j + 1) (outs.flatMap outC ++ outC x)) (hgrow : (W.alloc o).grownBy w4 v.ownBlock) :
    Blk w4 bx 31 cs ∧ OuR w (w4.setCell ⟨bx, 16, none⟩ v') g at_ all bad bx B0 (j + 1) v' (cs.setIfInBounds 16 v') (outs ++ [x]) left right q1 q2 A3 ifs := by
  have h1 := h.st.gw
  have h2 := h.st.wb
  have h3 := h.hb
  have h4 := h.hB
  have hlow : ∀ d, v.ownBlock = some d → B0 ≤ d := fun d hd => (h.own.lt d hd).1
  have hsz := hgrow.size
  rw [World.size_alloc] at hsz
  have hs4 : LSt w w4 g at_ all bad bx cs :=
    ⟨(h.st.ch.alloc o).grown hgrow (fun d hd => by have := hlow d hd; omega), (h.st.rd.alloc o).grown hgrow (fun d hd => by have := hlow d hd; omega), (h.st.rs.alloc o).grown hgrow (fun e => by have := hlow _ e.symm; omega), (h.st.bo.alloc o).grown hgrow (fun e => by have := hlow _ e.symm; omega), h1, h2⟩
  have hsc : Chg [bx] w4 (w4.setCell ⟨bx, 16, none⟩ v') := (Chg.refl _ _).setCell (.inl (by simp)) v'
  refine ⟨hs4.bo, hs4.set_ 16 v', ?_, ?_, h3, by have := hsc.size; omega⟩
  · rw [List.flatMap_append]
    have e : [x].flatMap outC = outC x := by simp
    rw [e]
    exact own_chg hown' hsc (fun d hd hm => by have := (hown'.lt d hd).1; simp at hm; omega)
  · refine h.parts.keep (fun b hb => hb) (fun q hq => ?_)
    unfold World.cell?
    rw [hsc.block q.block (by omega) (by simp; omega), hgrow.block q.block (by rw [World.size_alloc]; omega) (fun e => by have := hlow _ e.symm; omega), Below.heap_alloc _ _ _ (by omega)]
end
/-- What holds of the results that were read so far. -/
def OutInv (n at0 : Nat) (all : List Nat) (b0 b' : Bool) (outs : List Ot) (j at' : Nat) : Prop := (b0 = true → b' = true) ∧ (b0 = false → (b' = true → manyR outR n (all.drop at0) = none) ∧ (b' = false → preO outs (manyR outR (n - j) (all.drop at')) = manyR outR n (all.drop at0)))
def out32 (outs : List Ot) : Prop := ∀ x ∈ outs, is32 x.clear ∧ ok32 x.set ∧ is32 x.take
theorem OutInv.next {n at0 at' at5 j : Nat} {all : List Nat} {b0 b5 : Bool} {outs : List Ot} {x : Ot} (h : OutInv n at0 all b0 false outs j at') (hj : j < n) (hg : Got x b5 (all.drop at5) (outR (all.drop at'))) : OutInv n at0 all b0 b5 (outs ++ [x]) (j + 1) at5 := by
  refine ⟨fun hb => (by have := h.1 hb; cases this), fun hb => ?_⟩
  have h1 := (h.2 hb).2 rfl
  rw [show n - j = (n - (j + 1)) + 1 by omega] at h1
  cases hx : outR (all.drop at') with
  | none =>
    rw [hx] at hg
    rw [preO_none _ hx] at h1
    exact ⟨(fun _ => h1.symm), (fun h => by have hg' : b5 = true := hg; rw [hg'] at h; cases h)⟩
  | some y =>
    obtain ⟨y, r⟩ := y
    rw [hx] at hg
    obtain ⟨rfl, hb5, rfl⟩ := hg
    rw [preO_some _ hx] at h1
    exact ⟨(fun h => by rw [hb5] at h; cases h), (fun _ => h1)⟩
theorem OutInv.last {n at0 at' j : Nat} {all : List Nat} {b0 b' : Bool} {outs : List Ot} (h : OutInv n at0 all b0 b' outs j at') (hj : j = n ∨ b' = true) (hb : b0 = false) : Got outs b' (all.drop at') (manyR outR n (all.drop at0)) := by
  obtain ⟨i1, i2⟩ := h.2 hb
  cases hbx : b' with
  | true => rw [i1 hbx]; rfl
  | false =>
    have hjn : j = n := by
      rcases hj with h | h
      · exact h
      · rw [hbx] at h; cases h
    have := i2 hbx
    rw [hjn, Nat.sub_self] at this
    have e : manyR outR n (all.drop at0) = some (outs, all.drop at') := by rw [← this]; simp [preO, manyR]
    rw [e]
    exact ⟨rfl, rfl, rfl⟩
/-- The rounds' state. -/
def ORound (w wr : World) (g : Nat) (all : List Nat) (bx B0 n at0 : Nat) (b0 : Bool) (row : Value → Array Value) (left right : Pt) (q1 q2 : List Value) (A3 : Option Addr) (ifs : List Snd) (i : Value) : Prop :=
  ∃ j at' : Nat, ∃ b' : Bool, ∃ outs : List Ot, ∃ v : Value, j ≤ n ∧ i = .int .i64 j ∧ outs.length = j ∧ out32 outs ∧ OuR w wr g at' all b' bx B0 j v (row v) outs left right q1 q2 A3 ifs ∧ OutInv n at0 all b0 b' outs j at'
theorem word_got {ws : List Snd} {b : Bool} {rest : List Nat} {o : Option (List Snd × List Nat)} (h : match o with
    | some (y, r) => ws = y ∧ b = false ∧ rest = r
    | none => b = true) : Got ws b rest o := by
  cases o with
  | none => exact h
  | some q => exact h
def SSidePost (g : Nat) (all : List Nat) (bad : Bool) (w : World) (o : Option (Pt × List Nat)) (e : Ending) (w' : World) : Prop :=
  ∃ p cs n at' bad', e = .returned (.tuple #[.agg cs.toArray, .int .i64 n]) ∧ PatF w' (fun b => w.heap.size ≤ b ∧ b < w'.heap.size) p cs ∧ Chg [g] w w' ∧ RS w' g all at' bad' ∧ (bad = true → bad' = true) ∧ (bad = false → Got p bad' (all.drop at') o)
theorem sside_any (w : World) (g at_ : Nat) (all : List Nat) (bad : Bool) (h : RS w g all at_ bad) :
    Calls Tryd.prog 84 #[wptr g, .int .i64 0] w (SSidePost g all bad w (sideR (all.drop at_))) :=
  (spat_any 41 w g at_ 0 all bad (by omega) (by omega) h).mono fun _ _ ⟨p, cs, n, at', bad', he, h1, _, _, _, h2, h3, h4, h5⟩ => ⟨p, cs, n, at', bad', he, h1, h2, h3, h4, fun hb => got_side (h5 hb)⟩
end Go.Proofs.YtipfhamhiaeieaaDoor
