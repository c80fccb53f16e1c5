/-
 layer 43: patterns in new memory, of which it is known where it lies. Conditions: none.
-/
import Derived.Test.YtmepaeahchiglaaGreatDoorZdai
set_option maxRecDepth 20000
set_option maxHeartbeats 4000000
namespace Go.Proofs.YtmepaeahchiglaaGreatDoor
open Go.RowKit Go.Lib
def jQ (w : World) (S : Nat → Prop) (k : Nat) (A : Option Addr) (n : Nat) (xs : List Value) : Prop := xs.length = n * k ∧ (0 < n → ∃ a, A = some a ∧ S a.block ∧ ∀ j u, xs[j]? = some u → w.cell? (a.add j) = some u)
theorem jQ.keep {w w' : World} {S S' : Nat → Prop} {k n : Nat} {A : Option Addr} {xs : List Value} (h : jQ w S k A n xs) (hs : ∀ b, S b → S' b) (hk : ∀ q : Addr, S q.block → w'.cell? q = w.cell? q) : jQ w' S' k A n xs :=
 ⟨h.1, fun hn => by
   obtain ⟨a, e, h1, h2⟩ := h.2 hn
   exact ⟨a, e, hs _ h1, fun j u hu => (hk _ (by rw [block_of_add]; exact h1)).trans (h2 j u hu)⟩⟩
theorem jQ.reads {w : World} {S : Nat → Prop} {B k n : Nat} {A : Option Addr} {xs : List Value} (h : jQ w S k A n xs) (hs : ∀ b, S b → b < B) : Reads w B k A n xs :=
 ⟨h.1, fun hn => by
   obtain ⟨a, e, h1, h2⟩ := h.2 hn
   exact ⟨a, e, hs _ h1, h2⟩⟩
mutual
def PatF (w : World) (S : Nat → Prop) : Pt → List Value → Prop
 | .mk k s neg lo hi l, cs => ∃ A c xs, cs = aZ k s neg lo hi (.slice A l.length c) ∧ ok32 s ∧ l.length ≤ c ∧ c ≤ maxLen ∧ jQ w S 7 A l.length xs ∧ PatsF w S l xs
def PatsF (w : World) (S : Nat → Prop) : List Pt → List Value → Prop
 | [], xs => xs = []
 | p :: l, xs => ∃ c1 c2, xs = c1 ++ c2 ∧ PatF w S p c1 ∧ PatsF w S l c2
end
theorem pG {w : World} {S : Nat → Prop} {k : Int} {s : Snd} {neg : Bool} {lo hi : Int} {l : List Pt} {cs : List Value} :
 PatF w S (.mk k s neg lo hi l) cs ↔ ∃ A c xs, cs = aZ k s neg lo hi (.slice A l.length c) ∧ ok32 s ∧ l.length ≤ c ∧ c ≤ maxLen ∧ jQ w S 7 A l.length xs ∧ PatsF w S l xs := by rw [PatF]
theorem fB {w : World} {S : Nat → Prop} {xs : List Value} : PatsF w S [] xs ↔ xs = [] := by rw [PatsF]
theorem iC {w : World} {S : Nat → Prop} {p : Pt} {l : List Pt} {xs : List Value} : PatsF w S (p :: l) xs ↔ ∃ c1 c2, xs = c1 ++ c2 ∧ PatF w S p c1 ∧ PatsF w S l c2 := by rw [PatsF]
mutual
theorem PatF.keep {w w' : World} {S S' : Nat → Prop} (hs : ∀ b, S b → S' b) (hk : ∀ q : Addr, S q.block → w'.cell? q = w.cell? q) : ∀ (p : Pt) (cs : List Value), PatF w S p cs → PatF w' S' p cs
 | .mk k s neg lo hi l, cs, h => by
   rw [pG] at h ⊢
   obtain ⟨A, c, xs, h1, h2, h3, h4, h5, h6⟩ := h
   exact ⟨A, c, xs, h1, h2, h3, h4, h5.keep hs hk, PatsF.keep hs hk l xs h6⟩
theorem PatsF.keep {w w' : World} {S S' : Nat → Prop} (hs : ∀ b, S b → S' b) (hk : ∀ q : Addr, S q.block → w'.cell? q = w.cell? q) : ∀ (l : List Pt) (xs : List Value), PatsF w S l xs → PatsF w' S' l xs
 | [], xs, h => by rw [fB] at h ⊢; exact h
 | p :: l, xs, h => by
   rw [iC] at h ⊢
   obtain ⟨c1, c2, e, h1, h2⟩ := h
   exact ⟨c1, c2, e, PatF.keep hs hk p c1 h1, PatsF.keep hs hk l c2 h2⟩
end
mutual
theorem PatF.toC {w : World} {S : Nat → Prop} {B : Nat} (hs : ∀ b, S b → b < B) : ∀ (p : Pt) (cs : List Value), PatF w S p cs → PatC w B p cs
 | .mk k s neg lo hi l, cs, h => by
   rw [pG] at h
   rw [gN]
   obtain ⟨A, c, xs, h1, h2, h3, h4, h5, h6⟩ := h
   exact ⟨A, c, xs, h1, h2, h3, h4, h5.reads hs, PatsF.toC hs l xs h6⟩
theorem PatsF.toC {w : World} {S : Nat → Prop} {B : Nat} (hs : ∀ b, S b → b < B) : ∀ (l : List Pt) (xs : List Value), PatsF w S l xs → PatsC w B l xs
 | [], xs, h => by rw [fB] at h; rw [dZ]; exact h
 | p :: l, xs, h => by
   rw [iC] at h
   rw [df]
   obtain ⟨c1, c2, e, h1, h2⟩ := h
   exact ⟨c1, c2, e, PatF.toC hs p c1 h1, PatsF.toC hs l c2 h2⟩
end
theorem PatsF.append {w : World} {S : Nat → Prop} {p : Pt} {c2 : List Value} (h2 : PatF w S p c2) : ∀ (l : List Pt) (c1 : List Value), PatsF w S l c1 → PatsF w S (l ++ [p]) (c1 ++ c2)
 | [], c1, h => by
   rw [fB] at h
   subst h
   exact iC.2 ⟨c2, [], by simp, h2, fB.2 rfl⟩
 | q :: l, c1, h => by
   rw [iC] at h
   obtain ⟨d1, d2, rfl, k1, k2⟩ := h
   rw [List.cons_append, iC]
   exact ⟨d1, d2 ++ c2, by rw [List.append_assoc], k1, PatsF.append h2 l d2 k2⟩
theorem PatF.form {w : World} {S : Nat → Prop} {p : Pt} {cs : List Value} (h : PatF w S p cs) : ∃ k s neg lo hi A n c, cs = aZ k s neg lo hi (.slice A n c) := by
 obtain ⟨k, s, neg, lo, hi, l⟩ := p
 rw [pG] at h
 obtain ⟨A, c, xs, rfl, _⟩ := h
 exact ⟨k, s, neg, lo, hi, _, _, _, rfl⟩
theorem PatF.one {w : World} {S : Nat → Prop} {p : Pt} {cs : List Value} (h : PatF w S p cs) : cs.length = 7 ∧ ∀ u ∈ cs, u.oneCell' = true := by
 obtain ⟨k, s, neg, lo, hi, A, n, c, rfl⟩ := h.form
 refine ⟨rfl, fun u hu => ?_⟩
 simp only [aZ, List.mem_cons, List.not_mem_nil, or_false] at hu
 rcases hu with rfl | rfl | rfl | rfl | rfl | rfl | rfl <;> rfl
theorem jE {w : World} {base : Nat} {e : TypeId} {size n : Nat} {v : Value} {xs : List Value} (h : w.ownsRow base e size v n xs) : ∃ A c, v = .slice A n c ∧ n ≤ c ∧ c ≤ maxLen ∧ jQ w (fun b => v.ownBlock = some b) size A n xs := by
 obtain ⟨A, c, rfl, h1, h2⟩ := ownsRow_form h
 have hr := Reads.of_own h
 refine ⟨A, c, rfl, h1, h2, hr.1, fun hn => ?_⟩
 obtain ⟨a, rfl, _, h3⟩ := hr.2 hn
 refine ⟨a, rfl, ?_, h3⟩
 rcases h.2 with ⟨h4, h5⟩ | ⟨g, cap, cur, h4, _⟩
 ·cases h4
 ·injection h4 with h4 _ _
  injection h4 with h4
  subst h4; rfl
theorem kN (w : World) (S : Nat → Prop) (k : Int) (s : Snd) (neg : Bool) (lo hi : Int) (h : ok32 s) : PatF w S (.mk k s neg lo hi []) (aZ k s neg lo hi (.slice none 0 0)) :=
 pG.2 ⟨none, 0, [], rfl, h, Nat.le_refl _, by unfold maxLen; omega, ⟨rfl, fun hn => absurd hn (Nat.lt_irrefl _)⟩, fB.2 rfl⟩
theorem nI {w : World} {S : Nat → Prop} {k : Int} {s : Snd} {neg : Bool} {lo hi : Int} {l : List Pt} {base : Nat} {v : Value} {xs : List Value} (h : ok32 s) (ho : w.ownsRow base 58 7 v l.length xs) (hv : ∀ b, v.ownBlock = some b → S b) (hp : PatsF w S l xs) :
 PatF w S (.mk k s neg lo hi l) (aZ k s neg lo hi v) := by
 obtain ⟨A, c, rfl, h1, h2, h3⟩ := jE ho
 exact pG.2 ⟨A, c, xs, rfl, h, h1, h2, h3.keep hv (fun _ _ => rfl), hp⟩
def nP (g gl : Nat) (w : World) (o : Option ((Pt × Nat) × List Nat)) (e : Ending) (w' : World) : Prop :=
 av [g, gl] w w' ∧ match o with
  | some ((p, left), r) => ∃ cs, e = .returned (.agg cs.toArray) ∧ PatF w' (fun b => w.heap.size ≤ b ∧ b < w'.heap.size) p cs ∧ Rd w' g r ∧ Blk w' gl 3 #[.int .i64 left]
  | none => e = .panicked zI
def KJ (g gl : Nat) (w : World) (o : Option ((List Pt × Nat) × List Nat)) (e : Ending) (w' : World) : Prop :=
 av [g, gl] w w' ∧ match o with
  | some ((l, left), r) => ∃ v xs, e = .returned v ∧ w'.ownsRow w.heap.size 58 7 v l.length xs ∧ PatsF w' (fun b => w.heap.size ≤ b ∧ b < w'.heap.size ∧ v.ownBlock ≠ some b) l xs ∧ Rd w' g r ∧ Blk w' gl 3 #[.int .i64 left]
  | none => e = .panicked zI
def MQ (f : Nat) : Prop := ∀ (left : Nat) (w : World) (g gl : Nat) (bs : List Nat), left < f → left ≤ 100 → Rd w g bs → Blk w gl 3 #[.int .i64 left] → g < gl →
 Calls Tryz.prog 182 #[af g, af gl] w (nP g gl w (fD f left bs))
theorem Blk.free7 {w : World} {g : Nat} {t : TypeId} {a0 a1 a2 a3 a4 a5 a6 : Value} (h : Blk w g t #[a0, a1, a2, a3, a4, a5, a6]) :
 w.frozen? ⟨g, 0, none⟩ = false ∧ w.frozen? ⟨g, 1, none⟩ = false ∧ w.frozen? ⟨g, 2, none⟩ = false ∧ w.frozen? ⟨g, 3, none⟩ = false ∧ w.frozen? ⟨g, 4, none⟩ = false ∧ w.frozen? ⟨g, 5, none⟩ = false ∧ w.frozen? ⟨g, 6, none⟩ = false :=
 ⟨h.frozen 0, h.frozen 1, h.frozen 2, h.frozen 3, h.frozen 4, h.frozen 5, h.frozen 6⟩
abbrev st7 (w : World) (g : Nat) (c0 c1 c2 c3 c4 c5 c6 : Value) : World := ((((((w.setCell ⟨g, 0, none⟩ c0).setCell ⟨g, 1, none⟩ c1).setCell ⟨g, 2, none⟩ c2).setCell ⟨g, 3, none⟩ c3).setCell ⟨g, 4, none⟩ c4).setCell ⟨g, 5, none⟩ c5).setCell ⟨g, 6, none⟩ c6
theorem Blk.st7 {w : World} {g : Nat} {t : TypeId} {a0 a1 a2 a3 a4 a5 a6 : Value} (h : Blk w g t #[a0, a1, a2, a3, a4, a5, a6]) (c0 c1 c2 c3 c4 c5 c6 : Value) : Blk (st7 w g c0 c1 c2 c3 c4 c5 c6) g t #[c0, c1, c2, c3, c4, c5, c6] := by
 have := ((((((h.set_ 0 c0).set_ 1 c1).set_ 2 c2).set_ 3 c3).set_ 4 c4).set_ 5 c5).set_ 6 c6
 simpa using this
theorem av.st7 (w : World) (g : Nat) (c0 c1 c2 c3 c4 c5 c6 : Value) : av [g] w (st7 w g c0 c1 c2 c3 c4 c5 c6) := by
 have m : ∀ i : Nat, (⟨g, i, none⟩ : Addr).block ∈ [g] ∨ w.heap.size ≤ (⟨g, i, none⟩ : Addr).block := fun i => .inl (List.mem_singleton_self g)
 exact (((((((av.refl [g] w).setCell (m 0) c0).setCell (m 1) c1).setCell (m 2) c2).setCell (m 3) c3).setCell (m 4) c4).setCell (m 5) c5).setCell (m 6) c6
theorem PatF.aB {S : List Nat} {T T' : Nat → Prop} {w w' : World} {p : Pt} {cs : List Value} (h : PatF w T p cs) (hc : av S w w') (ht : ∀ b, T b → b < w.heap.size ∧ b ∉ S) (hs : ∀ b, T b → T' b) : PatF w' T' p cs :=
 h.keep hs (fun q hq => by
  unfold World.cell?
  rw [hc.block q.block (ht _ hq).1 (ht _ hq).2]) p cs
theorem PatsF.aB {S : List Nat} {T T' : Nat → Prop} {w w' : World} {l : List Pt} {cs : List Value} (h : PatsF w T l cs) (hc : av S w w') (ht : ∀ b, T b → b < w.heap.size ∧ b ∉ S) (hs : ∀ b, T b → T' b) : PatsF w' T' l cs :=
 h.keep hs (fun q hq => by
  unfold World.cell?
  rw [hc.block q.block (ht _ hq).1 (ht _ hq).2]) l cs
theorem uQ {g gl rb left : Nat} {w w1 : World} {p : Pt} {r : List Nat} {k : Int} {s : Snd} {neg : Bool} {lo hi : Int} {A : Option Addr} {n c : Nat} (bQ : av [g, gl] w w1) (bV : PatF w1 (fun b => w.heap.size + 1 ≤ b ∧ b < w1.heap.size ∧ b ≠ rb) p (aZ k s neg lo hi (.slice A n c))) (hr : Rd w1 g r) (hb : Blk w1 gl 3 #[.int .i64 left])
 (hrb : w.heap.size ≤ rb) (hg : g < rb) (hgl : gl ≠ rb) : nP g gl w (some ((p, left), r)) (.returned (.agg (aZ k s neg lo hi (.slice A n c)).toArray)) (st7 w1 rb (.int .i64 k) (.int .u32 s.1) (.int .u32 s.2) (.bool neg) (.int .i64 lo) (.int .i64 hi) (.slice A n c)) := by
 have hs7 := av.st7 w1 rb (.int .i64 k) (.int .u32 s.1) (.int .u32 s.2) (.bool neg) (.int .i64 lo) (.int .i64 hi) (.slice A n c)
 refine ⟨bQ.new hs7 (fun i hi => .inr (by rw [List.mem_singleton.1 hi]; exact hrb)), _, rfl, bV.aB hs7 (fun b hb => ⟨hb.2.1, by simpa using hb.2.2⟩) (fun b hb => ⟨by omega, Nat.lt_of_lt_of_le hb.2.1 hs7.size⟩), hr.aB hs7 (by simpa using hg), hb.aB hs7 (by simpa using hgl)⟩
theorem Bl (f : Nat) (hf : MQ f) (left : Nat) (w : World) (g gl b2 b3 : Nat) (bs : List Nat) (hlt : left < f) (h100 : left ≤ 100) (h : Rd w g bs) (hl : Blk w gl 3 #[.int .i64 left]) (hg : g < gl)
 (h2 : Blk w b2 104 #[af g]) (h3 : Blk w b3 243 #[af gl]) :
 Calls Tryz.prog 216 #[af b2, af b3] w (nP g gl w (fD f left bs)) := by
 have hc := hf left _ g gl bs hlt h100 (h.alloc (.cells #[.int .i64 0, .int .u32 0, .int .u32 0, .bool false, .int .i64 0, .int .i64 0, .slice none 0 0] 58)) (hl.alloc _) hg
 have bE := Blk.new w 58 #[.int .i64 0, .int .u32 0, .int .u32 0, .bool false, .int .i64 0, .int .i64 0, .slice none 0 0]
 have bQ := (av.refl [g, gl] w).alloc (.cells #[.int .i64 0, .int .u32 0, .int .u32 0, .bool false, .int .i64 0, .int .i64 0, .slice none 0 0] 58)
 have k2 := (h2.alloc (.cells #[.int .i64 0, .int .u32 0, .int .u32 0, .bool false, .int .i64 0, .int .i64 0, .slice none 0 0] 58)).cell 0
 have k3 := (h3.alloc (.cells #[.int .i64 0, .int .u32 0, .int .u32 0, .bool false, .int .i64 0, .int .i64 0, .slice none 0 0] 58)).cell 0
 have hgs := h.lt
 have hls := hl.lt
 simp only [gq2] at k2 k3
 obtain ⟨o, ho⟩ : ∃ o, fD f left bs = o := ⟨_, rfl⟩
 rw [ho] at hc ⊢
 have HC := qh hc; have FJ := qh bE; have bz := qh bQ
 clear hc bE bQ h hl h2 h3 ho hf
 go_enter Tryz.func216, Tryz.ntmps216
 go_wp2_with fail
 refine HC.out.mono ?_
 rintro e w1 ⟨hc1, hm⟩
 cases o with
 | none =>
   subst hm
   exact ⟨rfl, bz.out.trans hc1, rfl⟩
 | some q =>
   obtain ⟨⟨p, left'⟩, r⟩ := q
   obtain ⟨cs, rfl, bV, hr, hb⟩ := hm
   obtain ⟨k, s, neg, lo, hi, A, n, c, rfl⟩ := bV.form
   have hbx1 := FJ.out.aB hc1 (by simp; omega)
   obtain ⟨z0, z1, z2, z3, z4, z5, z6⟩ := hbx1.seven
   obtain ⟨y0, y1, y2, y3, y4, y5, y6⟩ := hbx1.free7
   have hx2 := hbx1.st7 (.int .i64 k) (.int .u32 s.1) (.int .u32 s.2) (.bool neg) (.int .i64 lo) (.int .i64 hi) (.slice A n c)
   have ay := uQ (bz.out.trans hc1) (bV.keep (fun b hb => ⟨by simpa using hb.1, hb.2, by have := hb.1; simp at this; omega⟩) (fun _ _ => rfl) _ _) hr hb (Nat.le_refl _) hgs (by omega)
   have wO := qh hx2; have aD := qh ay
   clear hc1 bV hr hb hbx1 hx2 ay
   go_wp2
   obtain ⟨z0, z1, z2, z3, z4, z5, z6⟩ := wO.out.seven
   exact bodyPost_ret (by simp [results, Tryz.results216, go_sem, z0, z1, z2, z3, z4, z5, z6]) rfl aD.out
theorem Am (f : Nat) (hf : MQ f) (left : Nat) (w : World) (g gl b2 b3 : Nat) (bs : List Nat) (hlt : left < f) (h100 : left ≤ 100) (h : Rd w g bs) (hl : Blk w gl 3 #[.int .i64 left]) (hg : g < gl)
 (h2 : Blk w b2 104 #[af g]) (h3 : Blk w b3 243 #[af gl]) :
 Calls Tryz.prog 217 #[af g, .func (.func 216) #[] #[af b2, af b3]] w (KJ g gl w (thenR countR (fun n => manyS (fD f) n left) bs)) := by
 obtain ⟨i0, hi, hz0, hz1, hz2⟩ := info_parts (show (Tryz.prog.info? 58).map (fun i => (i.zero, i.size, i.bytes)) = some (some (.agg #[.int .i64 0, .int .u32 0, .int .u32 0, .bool false, .int .i64 0, .int .i64 0, .slice none 0 0]), 7, 64) by kernel_rfl)
 have hgs := h.lt
 have hls := hl.lt
 have n2 : b2 ≠ gl := h2.ne_ hl (by decide)
 have n3 : b3 ≠ gl := h3.ne_ hl (by decide)
 have m2 : b2 ≠ g := by
  obtain ⟨A, c, hb, _⟩ := h
  exact h2.ne_ hb (by decide)
 have m3 : b3 ≠ g := by
  obtain ⟨A, c, hb, _⟩ := h
  exact h3.ne_ hb (by decide)
 have YX : ∀ W, av [g] w W → Blk W gl 3 #[.int .i64 left] := fun W hW => hl.aB hW (by simp; omega)
 have HLG := qh YX; have HB2 := qh h2; have HB3 := qh h3
 clear YX
 cases hr : countR bs with
 | none =>
   have hc := bN h hr
   rw [thenR_none hr]
   clear h hr h2 h3 hl
   go_enter Tryz.func217, Tryz.ntmps217
   go_wp2_with fail
   refine hc.mono ?_
   rintro e w1 ⟨rfl, h1⟩
   exact ⟨rfl, h1.mono (by simp), rfl⟩
 | some q =>
   obtain ⟨n, r⟩ := q
   have hc := bM h hr
   have hn := dC hr
   rw [thenR_some hr]
   obtain ⟨o, ho⟩ : ∃ o, manyS (fD f) n left r = o := ⟨_, rfl⟩
   rw [ho]
   have HO := qh ho; have HF := qh hf
   clear h hr ho h2 h3 hl hf
   go_enter Tryz.func217, Tryz.ntmps217
   go_wp2_with fail
   refine hc.mono ?_
   rintro e w1 ⟨rfl, h1, h2⟩
   have hn30 : n ≤ 1073741824 := Nat.le_trans hn h1.bytes
   have H1 := qh h1; have H2 := qh h2
   clear h1 h2 hc
   go_wp2
   go_loopw [5, 8] (fun v i wr => ∃ k : Nat, ∃ l : List Pt, ∃ xs : List Value, ∃ b : List Nat, ∃ lf : Nat, k ≤ n ∧ i = .int .i64 k ∧ l.length = k ∧ lf ≤ left ∧ wr.ownsRow w.heap.size 58 7 v k xs ∧ PatsF wr (fun b => w.heap.size ≤ b ∧ b < wr.heap.size ∧ v.ownBlock ≠ some b) l xs ∧ sH l (manyS (fD f) (n - k) lf b) = o ∧ Rd wr g b ∧ Blk wr gl 3 #[.int .i64 lf] ∧ av [g, gl] w wr) (fun _ i _ => n - (RowKit.intOf i).toNat)
   case atStart => exact ⟨0, [], [], r, left, by omega, rfl, rfl, Nat.le_refl _, World.ownsRow_nil _ _ _ _, fB.2 rfl, by rw [uN]; exact HO.out, H1.out, HLG.out _ H2.out, H2.out.mono (by simp)⟩
   case round =>
    obtain ⟨k, l, xs, b, lf, hk, rfl, hll, hlf, hown, ic, dM, hr, hlb, bQ⟩ := hrel
    have zU := qh hll; have bD := qh hown; have kZ := qh ic; have HR := qh hr; have Zx := qh hlb; have bz := qh bQ
    have hsz := bQ.size
    clear hll hown ic hr hlb bQ
    by_cases hkn : k < n
    ·have cB : (k : Int) < n := by omega
     rw [show n - k = (n - (k + 1)) + 1 by omega] at dM
     have ae := Bl f HF.out lf wr g gl b2 b3 b (by omega) (by omega) HR.out Zx.out hg (HB2.out.aB bz.out (by simp; omega)) (HB3.out.aB bz.out (by simp; omega))
     cases hs : fD f lf b with
     | none =>
       rw [qR _ hs] at dM
       rw [hs] at ae
       subst dM
       have aj := qh ae
       clear hs ae
       go_wp2_with fail
       refine aj.out.mono ?_
       rintro e w2 ⟨hc2, rfl⟩
       exact ⟨rfl, bz.out.trans hc2, rfl⟩
     | some q =>
       obtain ⟨⟨p, Wm⟩, b'⟩ := q
       have hdown := yg f lf b p Wm b' hs
       rw [qQ _ hs] at dM
       rw [hs] at ae
       have HP := qh dM; have aj := qh ae
       clear hs dM ae
       go_wp2_with fail
       refine aj.out.mono ?_
       rintro e w2 ⟨hc2, cs, rfl, bV, hr2, hlb2⟩
       have gQ := bV.one
       obtain ⟨k1, s1, neg1, lo1, hi1, A1, n1, c1, rfl⟩ := bV.form
       have hown2 := bY bD.out hc2 (fun j hj hm => by
        have := bD.out.lt j hj
        simp at hm; omega)
       have hrn := az w2 58 (aZ k1 s1 neg1 lo1 hi1 (.slice A1 n1 c1)) 7 1 rfl
       have hsz2 := hc2.size
       have H3 := qh hr2; have H4 := qh hc2; have aL := qh hown2; have dR := qh hrn; have nT := qh bV; have Yk := qh hlb2; have jR := qh gQ.2
       clear hr2 hc2 hown2 hrn bV hlb2 gQ
       go_wp2_with (at_builtin; refine wpList_append_any _ rfl _ _ 56 rfl w.heap.size 58 i0 (.agg #[.int .i64 0, .int .u32 0, .int .u32 0, .bool false, .int .i64 0, .int .i64 0, .slice none 0 0]) 7 64 Tryz.underlying56 hi hz0 hz1 hz2 rfl (by decide) _ _ _ rfl (aL.out.alloc _) _ _ _ _ (aZ k1 s1 neg1 lo1 hi1 (.slice A1 n1 c1)) rfl dR.out jR.out (by unfold maxLen; omega) (by omega) (by simp; omega) ?_; intro v' w3 ai ag bK)
       have hc3 : av [g, gl] w w3 := ((bz.out.trans H4.out).alloc _).grown ag (fun j hj => (aL.out.lt j hj).1)
       have hr3 : Rd w3 g b' := (H3.out.alloc _).grown ag (fun j hj => by have := (aL.out.lt j hj).1; omega)
       have hl3 : Blk w3 gl 3 #[.int .i64 Wm] := (Yk.out.alloc _).grown ag (fun e => by have := (aL.out.lt gl e.symm).1; omega)
       have hsz3 := ag.size
       replace bK : v'.ownBlock = u5.ownBlock ∨ v'.ownBlock = some (w2.alloc (.cells (aZ k1 s1 neg1 lo1 hi1 (.slice A1 n1 c1)).toArray 58)).heap.size := bK
       replace ag : (w2.alloc (.cells (aZ k1 s1 neg1 lo1 hi1 (.slice A1 n1 c1)).toArray 58)).grownBy w3 u5.ownBlock := ag
       have hcell3 : ∀ q : Addr, q.block < w2.heap.size → some q.block ≠ u5.ownBlock → w3.cell? q = w2.cell? q := fun q hq hne => by
        unfold World.cell?
        rw [ag.block q.block (by simp; omega) hne, Below.heap_alloc _ _ _ hq]
       have gJ : ∀ c, c < w2.heap.size → u5.ownBlock ≠ some c → v'.ownBlock ≠ some c := fun c hc hne e => by
        rcases bK with bK | bK
        ·exact hne (by rw [← bK, e])
        ·rw [e] at bK
         injection bK with bK
         simp at bK; omega
       have hold := kZ.out.aB (T' := fun b => w.heap.size ≤ b ∧ b < w2.heap.size ∧ u5.ownBlock ≠ some b) H4.out (fun c hc => ⟨hc.2.1, by simp; omega⟩) (fun c hc => ⟨hc.1, by omega, hc.2.2⟩)
       have hp1 : PatF w2 (fun b => w.heap.size ≤ b ∧ b < w2.heap.size ∧ u5.ownBlock ≠ some b) p _ := nT.out.keep (fun c hc => ⟨by omega, hc.2, fun e => by have := (bD.out.lt c e).2; omega⟩) (fun _ _ => rfl) _ _
       have aI := (PatsF.append hp1 l xs hold).keep (w' := w3) (S' := fun b => w.heap.size ≤ b ∧ b < w3.heap.size ∧ v'.ownBlock ≠ some b) (fun c hc => ⟨hc.1, by simp at hsz3; omega, gJ c hc.2.1 hc.2.2⟩) (fun q hq => hcell3 q hq.2.1 (fun e => hq.2.2 e.symm)) _ _
       clear ag bK hcell3 gJ hold hp1
       go_roundw
       case rel => exact ⟨k + 1, l ++ [p], _, b', Wm, by omega, by go_num, by rw [List.length_append, zU.out]; rfl, by omega, ai, aI, HP.out, hr3, hl3, hc3⟩
       case measure => simp [RowKit.intOf]; omega
    ·obtain rfl : k = n := by omega
     go_wp2
     go_ret
     rw [Nat.sub_self] at dM
     have e : o = some ((l, lf), b) := by rw [← dM]; simp [sH, manyS]
     subst e
     refine ⟨bz.out, _, _, rfl, ?_, kZ.out, HR.out, Zx.out⟩
     rw [zU.out]; exact bD.out
end Go.Proofs.YtmepaeahchiglaaGreatDoor
