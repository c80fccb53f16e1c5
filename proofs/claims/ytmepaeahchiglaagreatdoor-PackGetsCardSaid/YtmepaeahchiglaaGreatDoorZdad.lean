/-
 layer 43: the writer's law. Conditions: a valid law that can be read.
-/
import Derived.Test.YtmepaeahchiglaaGreatDoorZdac
import Derived.Test.YtmepaeahchiglaaGreatDoorSf
import Derived.Shelf.Strings.SlTrimAscii
set_option maxRecDepth 20000
set_option maxHeartbeats 4000000
namespace Go.Proofs.YtmepaeahchiglaaGreatDoor
open Go.RowKit Go.Lib
structure Lw where
 name : ByteArray
 left : Pt
 right : Pt
 ifs : List Snd
 outs : List Ot
 mode : Int
def QP (l : Lw) : List Nat := xH l.name ++ (lv l.left ++ (lv l.right ++ (wordB l.ifs ++ (EU l.outs ++ numB l.mode.toNat))))
def fI (w : World) (B : Nat) (l : Lw) (cs : List Value) : Prop := ∃ q1 q2 A3 c3 A4 c4, cs = .string l.name :: (q1 ++ (q2 ++ [.slice A3 l.ifs.length c3, .slice A4 l.outs.length c4, .int .i64 l.mode])) ∧ PatC w B l.left q1 ∧ PatC w B l.right q2 ∧
 Reads w B 2 A3 l.ifs.length (l.ifs.flatMap gL) ∧ Reads w B 6 A4 l.outs.length (l.outs.flatMap jc) ∧ (∀ s ∈ l.ifs, ok32 s) ∧ (∀ x ∈ l.outs, is32 x.clear ∧ ok32 x.set ∧ is32 x.take) ∧ l.ifs.length ≤ maxLen ∧ l.outs.length ≤ maxLen
theorem fI.keep {w w' : World} {B : Nat} {l : Lw} {cs : List Value} (h : fI w B l cs) (hk : ∀ p : Addr, p.block < B → w'.cell? p = w.cell? p) : fI w' B l cs := by
 obtain ⟨q1, q2, A3, c3, A4, c4, h1, h2, h3, h4, h5, h6⟩ := h
 exact ⟨q1, q2, A3, c3, A4, c4, h1, h2.keep hk _ _, h3.keep hk _ _, h4.keep hk, h5.keep hk, h6⟩
theorem fI.below {w w' : World} {B : Nat} {l : Lw} {cs : List Value} (h : fI w B l cs) (hb : Below B w w') : fI w' B l cs := h.keep fun _ hp => hb.cell hp
theorem fI.more {w : World} {B B' : Nat} {l : Lw} {cs : List Value} (h : fI w B l cs) (hb : B ≤ B') : fI w B' l cs := by
 obtain ⟨q1, q2, A3, c3, A4, c4, h1, h2, h3, h4, h5, h6⟩ := h
 exact ⟨q1, q2, A3, c3, A4, c4, h1, h2.more hb _ _, h3.more hb _ _, h4.more hb, h5.more hb, h6⟩
abbrev Mq (nm : ByteArray) (k1 : Int) (s1 : Snd) (n1 : Bool) (lo1 hi1 : Int) (A1 : Option Addr) (m1 c1 : Nat) (k2 : Int) (s2 : Snd) (n2 : Bool) (lo2 hi2 : Int) (A2 : Option Addr) (m2 c2 : Nat) (A3 : Option Addr) (m3 c3 : Nat) (A4 : Option Addr) (m4 c4 : Nat) (mode : Int) : List Value := [.string nm, .int .i64 k1, .int .u32 s1.1, .int .u32 s1.2, .bool n1, .int .i64 lo1, .int .i64 hi1, .slice A1 m1 c1, .int .i64 k2, .int .u32 s2.1, .int .u32 s2.2, .bool n2, .int .i64 lo2, .int .i64 hi2, .slice A2 m2 c2, .slice A3 m3 c3, .slice A4 m4 c4, .int .i64 mode]
theorem fI.form {w : World} {B : Nat} {l : Lw} {cs : List Value} (h : fI w B l cs) : ∃ k1 s1 n1 lo1 hi1 A1 m1 c1 k2 s2 n2 lo2 hi2 A2 m2 c2 A3 c3 A4 c4, cs = Mq l.name k1 s1 n1 lo1 hi1 A1 m1 c1 k2 s2 n2 lo2 hi2 A2 m2 c2 A3 l.ifs.length c3 A4 l.outs.length c4 l.mode ∧
 PatC w B l.left (aZ k1 s1 n1 lo1 hi1 (.slice A1 m1 c1)) ∧ PatC w B l.right (aZ k2 s2 n2 lo2 hi2 (.slice A2 m2 c2)) ∧
 Reads w B 2 A3 l.ifs.length (l.ifs.flatMap gL) ∧ Reads w B 6 A4 l.outs.length (l.outs.flatMap jc) ∧ (∀ s ∈ l.ifs, ok32 s) ∧ (∀ x ∈ l.outs, is32 x.clear ∧ ok32 x.set ∧ is32 x.take) ∧ l.ifs.length ≤ maxLen ∧ l.outs.length ≤ maxLen := by
 obtain ⟨q1, q2, A3, c3, A4, c4, rfl, h2, h3, h4⟩ := h
 obtain ⟨k1, s1, n1, lo1, hi1, A1, m1, c1, rfl⟩ := h2.form
 obtain ⟨k2, s2, n2, lo2, hi2, A2, m2, c2, rfl⟩ := h3.form
 exact ⟨k1, s1, n1, lo1, hi1, A1, m1, c1, k2, s2, n2, lo2, hi2, A2, m2, c2, A3, c3, A4, c4, rfl, h2, h3, h4⟩
theorem bJ {w : World} {B : Nat} {nm : ByteArray} {left right : Pt} {ifs : List Snd} {outs : List Ot} {mode : Int} {k1 : Int} {s1 : Snd} {n1 : Bool} {lo1 hi1 : Int} {A1 : Option Addr} {m1 c1 : Nat} {k2 : Int} {s2 : Snd} {n2 : Bool} {lo2 hi2 : Int} {A2 : Option Addr} {m2 c2 : Nat} {A3 : Option Addr} {m3 c3 : Nat} {A4 : Option Addr} {m4 c4 : Nat} {mo : Int}
 (h : fI w B ⟨nm, left, right, ifs, outs, mode⟩ (Mq nm k1 s1 n1 lo1 hi1 A1 m1 c1 k2 s2 n2 lo2 hi2 A2 m2 c2 A3 m3 c3 A4 m4 c4 mo)) :
 PatC w B left (aZ k1 s1 n1 lo1 hi1 (.slice A1 m1 c1)) ∧ PatC w B right (aZ k2 s2 n2 lo2 hi2 (.slice A2 m2 c2)) ∧ Reads w B 2 A3 ifs.length (ifs.flatMap gL) ∧ Reads w B 6 A4 outs.length (outs.flatMap jc) := by
 obtain ⟨q1, q2, Qx, c3', Ls, Ci, he, h2, h3, h4, h5, _⟩ := h
 have l1 := h2.len
 have l2 := h3.len
 match q1, l1, q2, l2 with
 | [x0, x1, x2, x3, x4, x5, x6], _, [z0, z1, z2, z3, z4, z5, z6], _ =>
   simp only [Mq, List.cons_append, List.nil_append, List.cons.injEq, and_true, true_and] at he
   obtain ⟨e0, e1, e2, e3, e4, e5, e6, f0, f1, f2, f3, f4, f5, f6, g3, g4, g5⟩ := he
   subst e0 e1 e2 e3 e4 e5 e6 f0 f1 f2 f3 f4 f5 f6
   injection g3 with g3 _ _
   injection g4 with g4 _ _
   subst g3 g4
   exact ⟨h2, h3, h4, h5⟩
theorem Blk.eighteen {w : World} {g : Nat} {t : TypeId} {a0 a1 a2 a3 a4 a5 a6 a7 a8 a9 a10 a11 a12 a13 a14 a15 a16 a17 : Value} (h : Blk w g t #[a0, a1, a2, a3, a4, a5, a6, a7, a8, a9, a10, a11, a12, a13, a14, a15, a16, a17]) :
 w.cell? ⟨g, 0, none⟩ = some a0 ∧ w.cell? ⟨g, 1, none⟩ = some a1 ∧ w.cell? ⟨g, 2, none⟩ = some a2 ∧ w.cell? ⟨g, 3, none⟩ = some a3 ∧ w.cell? ⟨g, 4, none⟩ = some a4 ∧ w.cell? ⟨g, 5, none⟩ = some a5 ∧ w.cell? ⟨g, 6, none⟩ = some a6 ∧ w.cell? ⟨g, 7, none⟩ = some a7 ∧ w.cell? ⟨g, 8, none⟩ = some a8 ∧ w.cell? ⟨g, 9, none⟩ = some a9 ∧ w.cell? ⟨g, 10, none⟩ = some a10 ∧ w.cell? ⟨g, 11, none⟩ = some a11 ∧ w.cell? ⟨g, 12, none⟩ = some a12 ∧ w.cell? ⟨g, 13, none⟩ = some a13 ∧ w.cell? ⟨g, 14, none⟩ = some a14 ∧ w.cell? ⟨g, 15, none⟩ = some a15 ∧ w.cell? ⟨g, 16, none⟩ = some a16 ∧ w.cell? ⟨g, 17, none⟩ = some a17 :=
 ⟨h.cell 0, h.cell 1, h.cell 2, h.cell 3, h.cell 4, h.cell 5, h.cell 6, h.cell 7, h.cell 8, h.cell 9, h.cell 10, h.cell 11, h.cell 12, h.cell 13, h.cell 14, h.cell 15, h.cell 16, h.cell 17⟩
def Nv (l : Lw) : Prop := l.name.size ≤ 1000 ∧ (sG l.left = true ∧ ptSize l.left ≤ 40) ∧ (sG l.right = true ∧ ptSize l.right ≤ 40) ∧ l.ifs.length ≤ 1000 ∧ l.outs.length ≤ 1000 ∧ (∀ x ∈ l.outs, EW x) ∧ 0 ≤ l.mode ∧ l.mode < 4294967296
theorem Iy (w : World) (base g B : Nat) (l : Lw) (cs : List Value) (xs : List Nat) (h : Wr w base g xs) (hl : fI w B l cs) (hB : B ≤ base) (hok : Nv l) (hx : xs.length + 100000 ≤ CAP) :
 Calls Tryz.prog 64 #[af g, .agg cs.toArray] w fun e w' => e = .returned (.tuple #[]) ∧ Wr w' base g (xs ++ QP l) ∧ WStep g w w' := by
 obtain ⟨k1, s1, n1, lo1, hi1, A1, m1, c1, k2, s2, n2, lo2, hi2, A2, m2, c2, A3, c3, A4, c4, rfl, hp1, hp2, hr3, hr4, hs3, -, -, -⟩ := hl.form
 obtain ⟨nm, left, right, ifs, outs, mode⟩ := l
 obtain ⟨hnm, ⟨ho1, hz1⟩, ⟨ho2, hz2⟩, hm3, hm4, hs4, hmo, hmo2⟩ := hok
 simp only at *
 have hgl := h.lt
 have hbg := h.base_le
 have hw1 := (h.alloc (.cells #[af g] 142)).alloc (.cells #[.string nm, .int .i64 k1, .int .u32 s1.1, .int .u32 s1.2, .bool n1, .int .i64 lo1, .int .i64 hi1, .slice A1 m1 c1, .int .i64 k2, .int .u32 s2.1, .int .u32 s2.2, .bool n2, .int .i64 lo2, .int .i64 hi2, .slice A2 m2 c2, .slice A3 ifs.length c3, .slice A4 outs.length c4, .int .i64 mode] 62)
 have hh0 := (Blk.new w 142 #[af g]).alloc (.cells #[.string nm, .int .i64 k1, .int .u32 s1.1, .int .u32 s1.2, .bool n1, .int .i64 lo1, .int .i64 hi1, .slice A1 m1 c1, .int .i64 k2, .int .u32 s2.1, .int .u32 s2.2, .bool n2, .int .i64 lo2, .int .i64 hi2, .slice A2 m2 c2, .slice A3 ifs.length c3, .slice A4 outs.length c4, .int .i64 mode] 62)
 have hb0 : Blk ((w.alloc (.cells #[af g] 142)).alloc (.cells #[.string nm, .int .i64 k1, .int .u32 s1.1, .int .u32 s1.2, .bool n1, .int .i64 lo1, .int .i64 hi1, .slice A1 m1 c1, .int .i64 k2, .int .u32 s2.1, .int .u32 s2.2, .bool n2, .int .i64 lo2, .int .i64 hi2, .slice A2 m2 c2, .slice A3 ifs.length c3, .slice A4 outs.length c4, .int .i64 mode] 62)) (w.heap.size + 1) 62 #[.string nm, .int .i64 k1, .int .u32 s1.1, .int .u32 s1.2, .bool n1, .int .i64 lo1, .int .i64 hi1, .slice A1 m1 c1, .int .i64 k2, .int .u32 s2.1, .int .u32 s2.2, .bool n2, .int .i64 lo2, .int .i64 hi2, .slice A2 m2 c2, .slice A3 ifs.length c3, .slice A4 outs.length c4, .int .i64 mode] := by simpa using Blk.new (w.alloc (.cells #[af g] 142)) 62 #[.string nm, .int .i64 k1, .int .u32 s1.1, .int .u32 s1.2, .bool n1, .int .i64 lo1, .int .i64 hi1, .slice A1 m1 c1, .int .i64 k2, .int .u32 s2.1, .int .u32 s2.2, .bool n2, .int .i64 lo2, .int .i64 hi2, .slice A2 m2 c2, .slice A3 ifs.length c3, .slice A4 outs.length c4, .int .i64 mode]
 have hst0 := ((WStep.refl g w).alloc h.lt (.cells #[af g] 142)).alloc (by simp; omega) (.cells #[.string nm, .int .i64 k1, .int .u32 s1.1, .int .u32 s1.2, .bool n1, .int .i64 lo1, .int .i64 hi1, .slice A1 m1 c1, .int .i64 k2, .int .u32 s2.1, .int .u32 s2.2, .bool n2, .int .i64 lo2, .int .i64 hi2, .slice A2 m2 c2, .slice A3 ifs.length c3, .slice A4 outs.length c4, .int .i64 mode] 62)
 have hbel0 := (hst0.below h).mono hB
 have hl0 := hl.below hbel0
 have e1 : (xH nm).length ≤ 1005 := by unfold xH; rw [List.length_append, uo]; have := bG nm.size; omega
 have e2 := uR left
 have e3 := uR right
 have e4 := FQ ifs
 have e5 : (EU outs).length ≤ 5 + 30 * outs.length := by
  show (numB outs.length ++ outs.flatMap wV).length ≤ _
  rw [List.length_append]
  have := bG outs.length
  have := nM Bq outs
  omega
 have hc1 := IE _ base g nm xs hw1 (by omega) (by omega)
 obtain ⟨Z1, hZ1⟩ : ∃ Z, (w.alloc (.cells #[af g] 142)).alloc (.cells #[.string nm, .int .i64 k1, .int .u32 s1.1, .int .u32 s1.2, .bool n1, .int .i64 lo1, .int .i64 hi1, .slice A1 m1 c1, .int .i64 k2, .int .u32 s2.1, .int .u32 s2.2, .bool n2, .int .i64 lo2, .int .i64 hi2, .slice A2 m2 c2, .slice A3 ifs.length c3, .slice A4 outs.length c4, .int .i64 mode] 62) = Z := ⟨_, rfl⟩
 rw [hZ1] at hw1 hh0 hb0 hst0 hbel0 hl0 hc1
 have hzs : Z1.heap.size = w.heap.size + 2 := by rw [← hZ1]; simp
 have HZ1 := qh hZ1
 show Calls _ _ #[af g, .agg #[.string nm, .int .i64 k1, .int .u32 s1.1, .int .u32 s1.2, .bool n1, .int .i64 lo1, .int .i64 hi1, .slice A1 m1 c1, .int .i64 k2, .int .u32 s2.1, .int .u32 s2.2, .bool n2, .int .i64 lo2, .int .i64 hi2, .slice A2 m2 c2, .slice A3 ifs.length c3, .slice A4 outs.length c4, .int .i64 mode]] _ fun e w' => e = .returned (.tuple #[]) ∧ Wr w' base g (xs ++ (xH nm ++ (lv left ++ (lv right ++ (wordB ifs ++ (EU outs ++ numB mode.toNat)))))) ∧ WStep g w w'
 have JH := hh0.cell 0
 obtain ⟨y0, y1, y2, y3, y4, y5, y6, y7, y8, y9, y10, y11, y12, y13, y14, y15, y16, y17⟩ := hb0.eighteen
 simp only [gq2] at JH
 have HW0 := qh hw1; have HH0 := qh hh0; have HB0 := qh hb0; have XU := qh hst0; have PL := qh hl0
 clear hw1 hh0 hb0 hst0 hbel0 hl0 h hl hp1 hp2 hr3 hr4 hZ1
 go_enter Tryz.func64, Tryz.ntmps64
 go_wp2_with fail
 rw [HZ1.out]
 clear HZ1
 refine hc1.mono ?_
 rintro e w1 ⟨rfl, h1, h2⟩
 have pX := XU.out.trans h2
 have bE := h2.blk HW0.out HB0.out (by decide) (by omega)
 have hhx := h2.blk HW0.out HH0.out (by decide) (by omega)
 have hlx := PL.out.below ((h2.below HW0.out).mono hB)
 have JH := hhx.cell 0
 obtain ⟨y0, y1, y2, y3, y4, y5, y6, y7, y8, y9, y10, y11, y12, y13, y14, y15, y16, y17⟩ := bE.eighteen
 simp only [gq2] at JH
 obtain ⟨hp1, hp2, hr3, hr4⟩ := bJ hlx
 have hcx := mK 40 left k1 s1 n1 lo1 hi1 A1 m1 c1 w1 base g B _ hz1 (by omega) ho1 hp1 hB h1 (by rw [List.length_append]; omega)
 have HW1 := qh h1; have PS := qh hhx; have HB1 := qh bE; have XT := qh pX; have PK := qh hlx; have hc2 := hcx
 clear h1 h2 pX bE hhx hlx hcx hp1 hp2 hr3 hr4
 go_wp2_with fail
 refine hc2.mono ?_
 rintro e w2 ⟨rfl, h1, h2⟩
 have pX := XT.out.trans h2
 have bE := h2.blk HW1.out HB1.out (by decide) (by omega)
 have hhx := h2.blk HW1.out PS.out (by decide) (by omega)
 have hlx := PK.out.below ((h2.below HW1.out).mono hB)
 have JH := hhx.cell 0
 obtain ⟨y0, y1, y2, y3, y4, y5, y6, y7, y8, y9, y10, y11, y12, y13, y14, y15, y16, y17⟩ := bE.eighteen
 simp only [gq2] at JH
 obtain ⟨hp1, hp2, hr3, hr4⟩ := bJ hlx
 have hcx := mK 40 right k2 s2 n2 lo2 hi2 A2 m2 c2 w2 base g B _ hz2 (by omega) ho2 hp2 hB h1 (by rw [List.length_append, List.length_append]; omega)
 have HW2 := qh h1; have Yq := qh hhx; have HB2 := qh bE; have dz := qh pX; have HL2 := qh hlx; have hc3 := hcx
 clear h1 h2 pX bE hhx hlx hcx hp1 hp2 hr3 hr4
 go_wp2_with fail
 refine hc3.mono ?_
 rintro e w3 ⟨rfl, h1, h2⟩
 have pX := dz.out.trans h2
 have bE := h2.blk HW2.out HB2.out (by decide) (by omega)
 have hhx := h2.blk HW2.out Yq.out (by decide) (by omega)
 have hlx := HL2.out.below ((h2.below HW2.out).mono hB)
 have JH := hhx.cell 0
 obtain ⟨y0, y1, y2, y3, y4, y5, y6, y7, y8, y9, y10, y11, y12, y13, y14, y15, y16, y17⟩ := bE.eighteen
 simp only [gq2] at JH
 obtain ⟨hp1, hp2, hr3, hr4⟩ := bJ hlx
 have hcx := vX w3 base g B A3 ifs.length c3 ifs _ h1 hr3 hB (by omega) hs3 (by rw [List.length_append, List.length_append, List.length_append]; omega)
 have HW3 := qh h1; have Yp := qh hhx; have HB3 := qh bE; have sS := qh pX; have PI := qh hlx; have hc4 := hcx
 clear h1 h2 pX bE hhx hlx hcx hp1 hp2 hr3 hr4
 go_wp2_with fail
 refine hc4.mono ?_
 rintro e w4 ⟨rfl, h1, h2⟩
 have pX := sS.out.trans h2
 have bE := h2.blk HW3.out HB3.out (by decide) (by omega)
 have hhx := h2.blk HW3.out Yp.out (by decide) (by omega)
 have hlx := PI.out.below ((h2.below HW3.out).mono hB)
 have JH := hhx.cell 0
 obtain ⟨y0, y1, y2, y3, y4, y5, y6, y7, y8, y9, y10, y11, y12, y13, y14, y15, y16, y17⟩ := bE.eighteen
 simp only [gq2] at JH
 obtain ⟨hp1, hp2, hr3, hr4⟩ := bJ hlx
 have hcx := EB w4 base g w.heap.size B A4 outs.length c4 outs _ h1 hhx hr4 hB hm4 hs4 (by rw [List.length_append, List.length_append, List.length_append, List.length_append]; omega)
 have FC := qh h1; have HH4 := qh hhx; have tK := qh bE; have XR := qh pX; have VQ := qh hlx; have hc5 := hcx
 clear h1 h2 pX bE hhx hlx hcx hp1 hp2 hr3 hr4
 go_wp2_with fail
 refine hc5.mono ?_
 rintro e w5 ⟨rfl, h1, h2⟩
 have pX := XR.out.trans h2
 have bE := h2.blk FC.out tK.out (by decide) (by omega)
 have hhx := h2.blk FC.out HH4.out (by decide) (by omega)
 have hlx := VQ.out.below ((h2.below FC.out).mono hB)
 have JH := hhx.cell 0
 obtain ⟨y0, y1, y2, y3, y4, y5, y6, y7, y8, y9, y10, y11, y12, y13, y14, y15, y16, y17⟩ := bE.eighteen
 simp only [gq2] at JH
 obtain ⟨hp1, hp2, hr3, hr4⟩ := bJ hlx
 have hcx := jq w5 base g mode _ h1 hmo hmo2 (by rw [List.length_append, List.length_append, List.length_append, List.length_append, List.length_append]; omega)
 have zR := qh h1; have HH5 := qh hhx; have mh := qh bE; have XQ := qh pX; have VP := qh hlx; have hc6 := hcx
 clear h1 h2 pX bE hhx hlx hcx hp1 hp2 hr3 hr4
 go_wp2_with fail
 refine hc6.mono ?_
 rintro e w6 ⟨rfl, h1, h2⟩
 have HE := qh h1; have HF := qh h2
 clear h1 h2
 go_wp2
 go_end0
 exact ⟨rfl, by rw [← List.append_assoc, ← List.append_assoc, ← List.append_assoc, ← List.append_assoc, ← List.append_assoc]; exact HE.out, XQ.out.trans HF.out⟩
def aT (c : UInt8) : Bool := (decide (97 ≤ c.toNat) && decide (c.toNat ≤ 122)) || (decide (65 ≤ c.toNat) && decide (c.toNat ≤ 90)) || (decide (48 ≤ c.toNat) && decide (c.toNat ≤ 57)) || decide (c.toNat = 45)
def aM (s : ByteArray) : Bool := decide (0 < s.size) && decide (s.size ≤ 24) && s.data.toList.all aT
def kT : ByteArray := ⟨#[97, 98, 99, 100, 101, 102, 103, 104, 105, 106, 107, 108, 109, 110, 111, 112, 113, 114, 115, 116, 117, 118, 119, 120, 121, 122, 65, 66, 67, 68, 69, 70, 71, 72, 73, 74, 75, 76, 77, 78, 79, 80, 81, 82, 83, 84, 85, 86, 87, 88, 89, 90, 48, 49, 50, 51, 52, 53, 54, 55, 56, 57, 45]⟩
theorem DC (c : UInt8) : aT c = kT.data.toList.contains c := by
 have h : ∀ n : Fin 256, aT (UInt8.ofNat n.val) = kT.data.toList.contains (UInt8.ofNat n.val) := by decide +kernel
 have := h ⟨c.toNat, c.toNat_lt⟩
 simpa using this
theorem dropWhile_nil {α : Type} (p : α → Bool) (l : List α) : l.dropWhile p = [] ↔ l.all p = true := by
 induction l with
 | nil => simp
 | cons x l ih =>
   rw [List.dropWhile_cons]
   cases h : p x <;> simp [h, ih]
theorem all_takeWhile {α : Type} (p : α → Bool) (l : List α) : (l.takeWhile p).all p = true := by
 induction l with
 | nil => rfl
 | cons x l ih =>
   rw [List.takeWhile_cons]
   cases h : p x
   ·simp
   ·simp only [if_true, List.all_cons, h, Bool.true_and]; exact ih
theorem Ac (l cs : List UInt8) : Lib.trimS l cs = [] ↔ l.all (fun b => cs.contains b) = true := by
 unfold Lib.trimS Lib.trimRightS Lib.trimLeftS
 rw [dropWhile_nil, List.all_reverse]
 have h3 := List.takeWhile_append_dropWhile (p := fun b => cs.contains b) (l := l.reverse)
 have h4 := all_takeWhile (fun b => cs.contains b) l.reverse
 constructor
 ·intro h
  have : (l.reverse).all (fun b => cs.contains b) = true := by rw [← h3, List.all_append, h4, h]; rfl
  rwa [List.all_reverse] at this
 ·intro h
  have : (l.reverse).all (fun b => cs.contains b) = true := by rw [List.all_reverse]; exact h
  rw [← h3, List.all_append, h4, Bool.true_and] at this
  exact this
theorem FR (s : ByteArray) (w : World) (hs : s.size ≤ maxLen) : Calls Tryz.prog 142 #[.string s, .string kT] w fun e w' => ∃ t : ByteArray, e = .returned (.string t) ∧ (t.data.toList = [] ↔ s.data.toList.all aT = true) ∧ Below w.heap.size w w' := by
 refine (Any.strings_Trim_laid Tryz.lays160 (by kernel_rfl) s kT w (by unfold maxLen at hs; exact hs) (by decide) (ascii_of_all (by decide))).mono ?_
 rintro e w' ⟨rfl, hb⟩
 refine ⟨_, rfl, ?_, hb⟩
 show Lib.trimS s.data.toList kT.data.toList = [] ↔ _
 rw [Ac]
 have : aT = fun b => kT.data.toList.contains b := by funext b; exact DC b
 rw [this]
theorem Dx {x : ByteArray} (h : x.data.toList = []) : aM x = false := by
 have : x.size = 0 := by rw [Lib.size_eq, h]; rfl
 unfold aM; rw [this]; rfl
theorem Br {x : ByteArray} (h : 24 < x.size) : aM x = false := by
 unfold aM; rw [decide_eq_false (show ¬ x.size ≤ 24 by omega)]; simp
theorem Bu {x : ByteArray} (h : x.data.toList.all aT = false) : aM x = false := by unfold aM; rw [h]; simp
theorem Dw {x : ByteArray} (h1 : x.data.toList ≠ []) (h2 : ¬ 24 < x.size) (h3 : x.data.toList.all aT = true) : aM x = true := by
 have : 0 < x.size := by
  rw [Lib.size_eq]
  cases h : x.data.toList with
  | nil => exact absurd h h1
  | cons a l => simp
 unfold aM; rw [h3, decide_eq_true this, decide_eq_true (show x.size ≤ 24 by omega)]; rfl
theorem DD (c : UInt8) : aT c = true ↔ (97 ≤ c.toNat ∧ c.toNat ≤ 122) ∨ (65 ≤ c.toNat ∧ c.toNat ≤ 90) ∨ (48 ≤ c.toNat ∧ c.toNat ≤ 57) ∨ c.toNat = 45 := by
 unfold aT
 simp only [Bool.or_eq_true, Bool.and_eq_true, decide_eq_true_iff]
 omega
theorem Dy {s : ByteArray} {k : Nat} (hk : k < s.data.toList.length) (h : ¬ aT s.data.toList[k] = true) : aM s = false := by
 unfold aM
 have : s.data.toList.all aT = false := by
  rw [List.all_eq_false]
  exact ⟨_, List.getElem_mem hk, h⟩
 rw [this, Bool.and_false]
theorem Bt {s : ByteArray} (h : ∀ j (hl : j < s.data.toList.length), aT s.data.toList[j] = true) : aM s = (decide (0 < s.size) && decide (s.size ≤ 24)) := by
 unfold aM
 have : s.data.toList.all aT = true := by
  rw [List.all_eq_true]
  intro x hx
  obtain ⟨i, hi, rfl⟩ := List.getElem_of_mem hx
  exact h i hi
 rw [this, Bool.and_true]
theorem Bb (s : ByteArray) (w : World) (hs : s.size ≤ maxLen) : Calls Tryz.prog 228 #[.string s] w fun e w' => e = .returned (.bool (aM s)) ∧ w = w' := by
 obtain ⟨res, hres⟩ : ∃ res, aM s = res := ⟨_, rfl⟩
 rw [hres]
 unfold maxLen at hs
 have bT := qh hres
 clear hres
 go_enter Tryz.func228, Tryz.ntmps228
 go_wp2
 go_loopw [3] (fun i wr => ∃ k : Nat, k ≤ s.size ∧ i = .int .i64 k ∧ (∀ j (hj : j < k) (hl : j < s.data.toList.length), aT s.data.toList[j] = true) ∧ w = wr) (fun i _ => s.size - (RowKit.intOf i).toNat)
 case atStart => exact ⟨0, by omega, rfl, fun j hj => absurd hj (Nat.not_lt_zero j), rfl⟩
 case round =>
  obtain ⟨k, hk, rfl, ht, rfl⟩ := hrel
  have HT := qh ht
  clear ht
  by_cases hlt : k < s.size
  ·have cB : (k : Int) < (s.size : Int) := by omega
   have bB : k < s.data.toList.length := by rw [← Lib.size_eq]; exact hlt
   have hkb : s.data.toList[k] = s[k] := by rw [Array.getElem_toList]; rfl
   have eu : aT s[k] = true → ∀ j (hj : j < k + 1) (hl : j < s.data.toList.length), aT s.data.toList[j] = true := fun h j hj hl => by
    rcases Nat.lt_or_ge j k with h' | h'
    ·exact HT.out j h' hl
    ·obtain rfl : j = k := by omega
     rw [hkb]; exact h
   have aS : ¬ aT s[k] = true → false = res := fun h => by rw [← bT.out, Dy bB (by rw [hkb]; exact h)]
   have hiff := DD s[k]
   have HY := qh eu; have HN := qh aS; have HI := qh hiff
   clear eu aS hkb hiff
   by_cases h45 : s[k].toNat = 45
   ·have Xq : (s[k].toNat : Int) = 45 := by omega
    have hok := HY.out (HI.out.2 (by omega))
    have gW := qh hok
    clear hok h45 HY HN HI
    go_wp2
    all_goals
     go_roundw
     case rel => exact ⟨k + 1, by omega, by go_num, gW.out, trivial⟩
     case measure => simp [RowKit.intOf]; omega
   ·have Xq : ¬ (s[k].toNat : Int) = 45 := by omega
    go_wp2
    all_goals first
     | (go_ret
        have hz : ¬ aT s[k] = true := fun h => by
         have h2 := HI.out.1 h
         omega
        have e0 := HN.out hz
        subst e0
        exact ⟨rfl, rfl⟩)
     | (have hz : aT s[k] = true := HI.out.2 (by omega)
        have hy := HY.out hz
        go_roundw
        case rel => exact ⟨k + 1, by omega, by go_num, hy, trivial⟩
        case measure => simp [RowKit.intOf]; omega)
     | (exfalso
        rename_i hq
        simp only [Bool.not_eq_false', decide_eq_true_iff, beq_iff_eq] at hq
        omega)
  ·obtain rfl : k = s.size := by omega
   have hr := Bt (s := s) (fun j hl => HT.out j (by rw [Lib.size_eq]; exact hl) hl)
   rw [bT.out] at hr
   by_cases h1 : 1 ≤ s.size
   ·by_cases h2 : s.size ≤ 24
    ·have yz : (1 : Int) ≤ (s.size : Int) := by omega
     have vJ : (s.size : Int) ≤ 24 := by omega
     rw [decide_eq_true (show 0 < s.size by omega), decide_eq_true h2] at hr
     subst hr
     go_wp2
     go_ret
     exact ⟨rfl, rfl⟩
    ·have yz : (1 : Int) ≤ (s.size : Int) := by omega
     have vJ : ¬ (s.size : Int) ≤ 24 := by omega
     rw [decide_eq_true (show 0 < s.size by omega), decide_eq_false h2] at hr
     subst hr
     go_wp2
     go_ret
     exact ⟨rfl, rfl⟩
   ·have yz : ¬ (1 : Int) ≤ (s.size : Int) := by omega
    rw [decide_eq_false (show ¬ 0 < s.size by omega)] at hr
    subst hr
    go_wp2
    go_ret
    exact ⟨rfl, rfl⟩
theorem GG (x : ByteArray) (w : World) (hsz : x.size ≤ maxLen) : Calls Tryz.prog 69 #[.string x] w fun e w' => e = .returned (.bool (aM x)) ∧ Below w.heap.size w w' := by
 by_cases hx0 : x.data.toList = []
 ·have hxe : x.toList = [] := by rw [Lib.toList_data]; exact hx0
  have hxe2 : x.toList.isEmpty = true := by rw [hxe]; rfl
  have hxe3 : (x.toList == []) = true := by rw [hxe]; rfl
  rw [Dx hx0]
  clear hx0
  go_enter Tryz.func69, Tryz.ntmps69
  go_wp2
  go_ret
  exact ⟨rfl, Below.refl _ _⟩
 ·have hxe : x.toList.isEmpty = false := by rw [Lib.toList_data, List.isEmpty_eq_false_iff]; exact hx0
  have hxe2 : (x.toList == []) = false := by rw [Lib.toList_data, beq_eq_false_iff_ne]; exact hx0
  have hxe3 : ¬ x.toList = [] := by rw [Lib.toList_data]; exact hx0
  have HX := qh hx0
  clear hx0
  by_cases hx2 : 24 < x.size
  ·have QZ : ¬ (x.size : Int) ≤ 24 := by omega
   have hx2d : decide ((x.size : Int) ≤ 24) = false := decide_eq_false QZ
   rw [Br hx2]
   clear hx2
   go_enter Tryz.func69, Tryz.ntmps69
   go_wp2
   go_ret
   exact ⟨rfl, Below.refl _ _⟩
  ·have QZ : (x.size : Int) ≤ 24 := by omega
   have ae := FR x w hsz
   have wO := qh hx2
   clear hx2
   cases aI : x.data.toList.all aT
   ·rw [Bu aI]
    have bf := qh aI
    clear aI
    go_enter Tryz.func69, Tryz.ntmps69
    go_wp2_with fail
    refine ae.mono ?_
    rintro e w1 ⟨t, rfl, ht, hb1⟩
    have hte : ¬ t.toList = [] := by
     rw [Lib.toList_data]; intro h
     have := ht.1 h
     rw [bf.out] at this; cases this
    have hte2 : t.toList.isEmpty = false := by rw [List.isEmpty_eq_false_iff]; exact hte
    have hte3 : (t.toList == []) = false := by rw [beq_eq_false_iff_ne]; exact hte
    have HB1 := qh hb1
    clear ht hb1 ae
    go_wp2
    go_ret
    exact ⟨rfl, HB1.out⟩
   ·rw [Dw HX.out wO.out aI]
    have bf := qh aI
    clear aI
    go_enter Tryz.func69, Tryz.ntmps69
    go_wp2_with fail
    refine ae.mono ?_
    rintro e w1 ⟨t, rfl, ht, hb1⟩
    have hte : t.toList = [] := by rw [Lib.toList_data]; exact ht.2 bf.out
    have hte2 : t.toList.isEmpty = true := by rw [hte]; rfl
    have hte3 : (t.toList == []) = true := by rw [hte]; rfl
    have HB1 := qh hb1
    clear ht hb1 ae
    go_wp2
    go_ret
    exact ⟨rfl, HB1.out⟩
end Go.Proofs.YtmepaeahchiglaaGreatDoor
