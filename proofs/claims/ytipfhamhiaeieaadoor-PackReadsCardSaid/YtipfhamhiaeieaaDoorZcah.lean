/-
  layer 43: the writer's laws. Conditions: a valid law that can be read.
-/
import Derived.Test.YtipfhamhiaeieaaDoorZcag
namespace Go.Proofs.YtipfhamhiaeieaaDoor
open Go.RowKit Go.Lib

/-- A sound by which a law replaces something: From, Clear, Set, Take, Of. -/
structure Ot where
  src : Int
  clear : Nat
  set : Snd
  take : Nat
  ref : Int
instance : Inhabited Ot := ⟨⟨0, 0, (0, 0), 0, 0⟩⟩
abbrev outC (x : Ot) : List Value := [.int .i64 x.src, .int .u32 x.clear, .int .u32 x.set.1, .int .u32 x.set.2, .int .u32 x.take, .int .i64 x.ref]
abbrev outV (x : Ot) : Value := .agg #[.int .i64 x.src, .int .u32 x.clear, .int .u32 x.set.1, .int .u32 x.set.2, .int .u32 x.take, .int .i64 x.ref]
def outB (x : Ot) : List Nat := numB (x.src + 1).toNat ++ (numB x.clear ++ (sndB x.set ++ (numB x.take ++ numB x.ref.toNat)))
/-- What can be written. -/
def ok32O (x : Ot) : Prop := (-1 ≤ x.src ∧ x.src < 4294967295) ∧ is32 x.clear ∧ ok32 x.set ∧ is32 x.take ∧ (0 ≤ x.ref ∧ x.ref < 4294967296)
theorem outB_len (x : Ot) : (outB x).length ≤ 30 := by
  unfold outB
  rw [List.length_append, List.length_append, List.length_append, List.length_append]
  have := numB_len (x.src + 1).toNat
  have := numB_len x.clear
  have := sndB_len x.set
  have := numB_len x.take
  have := numB_len x.ref.toNat
  omega
theorem Blk.six {w : World} {g : Nat} {t : TypeId} {a0 a1 a2 a3 a4 a5 : Value} (h : Blk w g t #[a0, a1, a2, a3, a4, a5]) :
    w.cell? ⟨g, 0, none⟩ = some a0 ∧ w.cell? ⟨g, 1, none⟩ = some a1 ∧ w.cell? ⟨g, 2, none⟩ = some a2 ∧ w.cell? ⟨g, 3, none⟩ = some a3 ∧ w.cell? ⟨g, 4, none⟩ = some a4 ∧ w.cell? ⟨g, 5, none⟩ = some a5 :=
  ⟨h.cell 0, h.cell 1, h.cell 2, h.cell 3, h.cell 4, h.cell 5⟩
set_option maxRecDepth 20000 in
set_option maxHeartbeats 2000000 in
theorem out_any (w : World) (base g h0 : Nat) (x : Ot) (xs : List Nat) (h : Wr w base g xs) (hh : Blk w h0 66 #[wptr g]) (hok : ok32O x) (hx : xs.length + 30 ≤ CAP) :
    Calls Tryd.prog 61 #[outV x, wptr h0] w fun e w' => e = .returned (.tuple #[]) ∧ Wr w' base g (xs ++ outB x) ∧ WStep g w w' := by
  obtain ⟨⟨a1, a2⟩, hcl, hset, htk, r1, r2⟩ := hok
  obtain ⟨src, clear, set, take, ref⟩ := x
  simp only at *
  have hgh : h0 ≠ g := fun e => by
    subst e
    obtain ⟨v, b1, _⟩ := h
    exact Blk.ne_ b1 hh (by decide) rfl
  have hw0 := h.alloc (.cells #[.int .i64 src, .int .u32 clear, .int .u32 set.1, .int .u32 set.2, .int .u32 take, .int .i64 ref] 60)
  have hB0 := Blk.new w 60 #[.int .i64 src, .int .u32 clear, .int .u32 set.1, .int .u32 set.2, .int .u32 take, .int .i64 ref]
  have hh0 := hh.alloc (.cells #[.int .i64 src, .int .u32 clear, .int .u32 set.1, .int .u32 set.2, .int .u32 take, .int .i64 ref] 60)
  have hst := (WStep.refl g w).alloc h.lt (.cells #[.int .i64 src, .int .u32 clear, .int .u32 set.1, .int .u32 set.2, .int .u32 take, .int .i64 ref] 60)
  have hgl := h.lt
  have hhl := hh.lt
  have hhc := hh0.cell 0
  simp only [List.getElem?_toArray, List.getElem?_cons_zero] at hhc
  have hl1 := numB_len (src + 1).toNat
  have hl2 := numB_len clear
  have hl3 := sndB_len set
  have hl4 := numB_len take
  have hc1 := count_int _ base g (src + 1) xs hw0 (by omega) (by omega) (by omega)
  have HW0 := Lib.hid hw0; have HB0 := Lib.hid hB0; have HST := Lib.hid hst; have HH := Lib.hid hh0
  clear hw0 hB0 hst hh0 h hh
  show Calls _ _ _ _ fun e w' => e = .returned (.tuple #[]) ∧ Wr w' base g (xs ++ (numB (src + 1).toNat ++ (numB clear ++ (sndB set ++ (numB take ++ numB ref.toNat))))) ∧ WStep g w w'
  go_enter Tryd.func61, Tryd.ntmps61
  go_wp2_with fail
  refine hc1.mono ?_
  rintro e w1 ⟨rfl, h1, h2⟩
  have hb1 := h2.blk HW0.out HB0.out (by decide) (by omega)
  have hh1 := h2.blk HW0.out HH.out (by decide) hgh
  obtain ⟨c0, c1, c2, c3, c4, c5⟩ := hb1.six
  have hhc := hh1.cell 0
  simp only [List.getElem?_toArray, List.getElem?_cons_zero] at hhc
  have hc2 := num_any w1 base g clear _ h1 hcl (by rw [List.length_append]; omega)
  have H1 := Lib.hid h1; have H2 := Lib.hid h2; have HB1 := Lib.hid hb1; have HH1 := Lib.hid hh1
  clear h1 h2 hb1 hh1 hc1
  go_wp2_with fail
  refine hc2.mono ?_
  rintro e w2 ⟨rfl, h1, h2⟩
  have hb1 := h2.blk H1.out HB1.out (by decide) (by omega)
  have hh1 := h2.blk H1.out HH1.out (by decide) hgh
  obtain ⟨c0, c1, c2, c3, c4, c5⟩ := hb1.six
  have hhc := hh1.cell 0
  simp only [List.getElem?_toArray, List.getElem?_cons_zero] at hhc
  have hc2 := sound_any w2 base g set _ h1 hset (by rw [List.length_append, List.length_append]; omega)
  have H3 := Lib.hid h1; have H4 := Lib.hid h2; have HB2 := Lib.hid hb1; have HH2 := Lib.hid hh1
  clear h1 h2 hb1 hh1
  go_wp2_with fail
  refine hc2.mono ?_
  rintro e w3 ⟨rfl, h1, h2⟩
  have hb1 := h2.blk H3.out HB2.out (by decide) (by omega)
  have hh1 := h2.blk H3.out HH2.out (by decide) hgh
  obtain ⟨c0, c1, c2, c3, c4, c5⟩ := hb1.six
  have hhc := hh1.cell 0
  simp only [List.getElem?_toArray, List.getElem?_cons_zero] at hhc
  have hc2 := num_any w3 base g take _ h1 htk (by rw [List.length_append, List.length_append, List.length_append]; omega)
  have H5 := Lib.hid h1; have H6 := Lib.hid h2; have HB3 := Lib.hid hb1; have HH3 := Lib.hid hh1
  clear h1 h2 hb1 hh1
  go_wp2_with fail
  refine hc2.mono ?_
  rintro e w4 ⟨rfl, h1, h2⟩
  have hb1 := h2.blk H5.out HB3.out (by decide) (by omega)
  have hh1 := h2.blk H5.out HH3.out (by decide) hgh
  obtain ⟨c0, c1, c2, c3, c4, c5⟩ := hb1.six
  have hhc := hh1.cell 0
  simp only [List.getElem?_toArray, List.getElem?_cons_zero] at hhc
  have hc2 := count_int w4 base g ref _ h1 r1 r2 (by rw [List.length_append, List.length_append, List.length_append, List.length_append]; omega)
  have H7 := Lib.hid h1; have H8 := Lib.hid h2
  clear h1 h2 hb1 hh1
  go_wp2_with fail
  refine hc2.mono ?_
  rintro e w5 ⟨rfl, h1, h2⟩
  have H9 := Lib.hid h1; have H10 := Lib.hid h2
  clear h1 h2
  go_wp2
  go_end0
  exact ⟨rfl, by rw [← List.append_assoc, ← List.append_assoc, ← List.append_assoc, ← List.append_assoc]; exact H9.out, ((((HST.out.trans H2.out).trans H4.out).trans H6.out).trans H8.out).trans H10.out⟩
theorem out_cells {w : World} {B n i : Nat} {A : Option Addr} {l : List Ot} (h : Reads w B 6 A n (l.flatMap outC)) (hi : i < l.length) :
    ∃ ad, A = some ad ∧ ad.block < B ∧ w.cell? (ad.add (i * 6)) = some (.int .i64 l[i].src) ∧ w.cell? ⟨(ad.add (i * 6)).block, (ad.add (i * 6)).off + 1, none⟩ = some (.int .u32 l[i].clear) ∧ w.cell? ⟨(ad.add (i * 6)).block, (ad.add (i * 6)).off + 2, none⟩ = some (.int .u32 l[i].set.1) ∧
      w.cell? ⟨(ad.add (i * 6)).block, (ad.add (i * 6)).off + 3, none⟩ = some (.int .u32 l[i].set.2) ∧ w.cell? ⟨(ad.add (i * 6)).block, (ad.add (i * 6)).off + 4, none⟩ = some (.int .u32 l[i].take) ∧ w.cell? ⟨(ad.add (i * 6)).block, (ad.add (i * 6)).off + 5, none⟩ = some (.int .i64 l[i].ref) := by
  obtain ⟨ad, e, hb, hc⟩ := h.row (fun _ => rfl) (by decide) hi
  exact ⟨ad, e, hb, hc 0 _ rfl, by rw [← add_next ad (i * 6) 0]; exact hc 1 _ rfl, by rw [← add_next ad (i * 6) 1]; exact hc 2 _ rfl, by rw [← add_next ad (i * 6) 2]; exact hc 3 _ rfl, by rw [← add_next ad (i * 6) 3]; exact hc 4 _ rfl, by rw [← add_next ad (i * 6) 4]; exact hc 5 _ rfl⟩
def outsB (l : List Ot) : List Nat := allB outB l
set_option maxRecDepth 20000 in
set_option maxHeartbeats 1000000 in
theorem allOut_any (w : World) (base g h0 B : Nat) (A : Option Addr) (n c : Nat) (l : List Ot) (xs : List Nat) (h : Wr w base g xs) (hh : Blk w h0 66 #[wptr g]) (hr : Reads w B 6 A n (l.flatMap outC)) (hB : B ≤ base) (hn : n ≤ 1000) (hok : ∀ x ∈ l, ok32O x) (hx : xs.length + 5 + 30 * n ≤ CAP) :
    Calls Tryd.prog 60 #[wptr g, .slice A n c, .func (.func 61) #[] #[wptr h0]] w fun e w' => e = .returned (.tuple #[]) ∧ Wr w' base g (xs ++ outsB l) ∧ WStep g w w' := by
  have hwl := hr.len_of (fun _ => rfl) (by decide)
  have hc1 := count_any w base g n xs h (by omega) (by omega)
  have hl := numB_len n
  have hgh : h0 ≠ g := fun e => by
    subst e
    obtain ⟨v, b1, _⟩ := h
    exact Blk.ne_ b1 hh (by decide) rfl
  have HH := Lib.hid h; have HR := Lib.hid hr; have HWL := Lib.hid hwl; have HOK := Lib.hid hok; have HB := Lib.hid hh
  clear h hr hwl hok hh
  go_enter Tryd.func60, Tryd.ntmps60
  go_wp2_with fail
  refine hc1.mono ?_
  rintro e w1 ⟨rfl, h1, h2⟩
  have HW := Lib.hid h1; have HST := Lib.hid h2
  clear h1 h2 hc1
  go_wp2
  go_loopw [14] (fun i wr => ∃ k : Nat, k ≤ n ∧ i = .int .i64 k ∧ Wr wr base g (xs ++ numB n ++ (l.take k).flatMap outB) ∧ WStep g w wr) (fun i _ => n - (RowKit.intOf i).toNat)
  case atStart => exact ⟨0, by omega, rfl, by simpa using HW.out, HST.out⟩
  case round =>
    obtain ⟨k, hk, rfl, hwr, hst⟩ := hrel
    have HWR := Lib.hid hwr; have HST2 := Lib.hid hst
    clear hwr hst
    by_cases hlt : k < n
    · have hkl : k < l.length := by rw [HWL.out]; exact hlt
      have hkI : (k : Int) < (n : Int) := by omega
      obtain ⟨ad, rfl, had, hc0, hc1, hc2, hc3, hc4, hc5⟩ := out_cells (HST2.out.reads HH.out HR.out hB) hkl
      have hlen : (xs ++ numB n ++ (l.take k).flatMap outB).length + 30 ≤ CAP := by
        have := flatB_len outB_len (l.take k)
        rw [List.length_append, List.length_append]
        rw [List.length_take, HWL.out] at this
        omega
      have hts := take_flat outB l k hkl
      have hcall := out_any _ base g h0 l[k] _ (HWR.out.alloc (.cells #[.int .i64 l[k].src, .int .u32 l[k].clear, .int .u32 l[k].set.1, .int .u32 l[k].set.2, .int .u32 l[k].take, .int .i64 l[k].ref] 60)) ((HST2.out.blk HH.out HB.out (by decide) hgh).alloc _) (HOK.out _ (List.getElem_mem hkl)) hlen
      have HTS := Lib.hid hts; have HCALL := Lib.hid hcall
      clear hts hcall hlen
      generalize outB l[k] = ob at *
      generalize l[k] = x at *
      go_wp2_with fail
      refine HCALL.out.mono ?_
      rintro e w2 ⟨rfl, h3, h4⟩
      have H3 := Lib.hid h3; have H4 := Lib.hid h4
      clear h3 h4
      go_wp2
      go_roundw
      case rel => exact ⟨k + 1, by omega, by go_num, by rw [HTS.out, ← List.append_assoc]; exact H3.out, (HST2.out.alloc HWR.out.lt _).trans H4.out⟩
      case measure => simp [RowKit.intOf]; omega
    · obtain rfl : k = n := by omega
      go_wp2
      go_end0
      refine ⟨rfl, ?_, HST2.out⟩
      have := HWR.out
      rw [List.take_of_length_le (by rw [HWL.out]; exact Nat.le_refl _), List.append_assoc] at this
      show Wr wr base g (xs ++ (numB l.length ++ l.flatMap outB))
      rw [HWL.out]; exact this
end Go.Proofs.YtipfhamhiaeieaaDoor
namespace Go.Proofs.YtipfhamhiaeieaaDoor
open Go.RowKit Go.Lib

/-- A law: Name, Left, Right, If, Out, Mode. -/
structure Lw where
  name : ByteArray
  left : Pt
  right : Pt
  ifs : List Snd
  outs : List Ot
  mode : Int
def lawB (l : Lw) : List Nat := textB l.name ++ (patB l.left ++ (patB l.right ++ (wordB l.ifs ++ (outsB l.outs ++ numB l.mode.toNat))))
/-- The cells of a law, whose parts lie below block B. -/
def LawC (w : World) (B : Nat) (l : Lw) (cs : List Value) : Prop := ∃ q1 q2 A3 c3 A4 c4, cs = .string l.name :: (q1 ++ (q2 ++ [.slice A3 l.ifs.length c3, .slice A4 l.outs.length c4, .int .i64 l.mode])) ∧ PatC w B l.left q1 ∧ PatC w B l.right q2 ∧
  Reads w B 2 A3 l.ifs.length (l.ifs.flatMap sndC) ∧ Reads w B 6 A4 l.outs.length (l.outs.flatMap outC) ∧ (∀ s ∈ l.ifs, ok32 s) ∧ (∀ x ∈ l.outs, is32 x.clear ∧ ok32 x.set ∧ is32 x.take) ∧ l.ifs.length ≤ maxLen ∧ l.outs.length ≤ maxLen
theorem LawC.keep {w w' : World} {B : Nat} {l : Lw} {cs : List Value} (h : LawC w B l cs) (hk : ∀ p : Addr, p.block < B → w'.cell? p = w.cell? p) : LawC w' B l cs := by
  obtain ⟨q1, q2, A3, c3, A4, c4, h1, h2, h3, h4, h5, h6⟩ := h
  exact ⟨q1, q2, A3, c3, A4, c4, h1, h2.keep hk _ _, h3.keep hk _ _, h4.keep hk, h5.keep hk, h6⟩
theorem LawC.below {w w' : World} {B : Nat} {l : Lw} {cs : List Value} (h : LawC w B l cs) (hb : Below B w w') : LawC w' B l cs := h.keep fun _ hp => hb.cell hp
theorem LawC.more {w : World} {B B' : Nat} {l : Lw} {cs : List Value} (h : LawC w B l cs) (hb : B ≤ B') : LawC w B' l cs := by
  obtain ⟨q1, q2, A3, c3, A4, c4, h1, h2, h3, h4, h5, h6⟩ := h
  exact ⟨q1, q2, A3, c3, A4, c4, h1, h2.more hb _ _, h3.more hb _ _, h4.more hb, h5.more hb, h6⟩
abbrev lawL (nm : ByteArray) (k1 : Int) (s1 : Snd) (n1 : Bool) (lo1 hi1 : Int) (A1 : Option Addr) (m1 c1 : Nat) (k2 : Int) (s2 : Snd) (n2 : Bool) (lo2 hi2 : Int) (A2 : Option Addr) (m2 c2 : Nat) (A3 : Option Addr) (m3 c3 : Nat) (A4 : Option Addr) (m4 c4 : Nat) (mode : Int) : List Value := [.string nm, .int .i64 k1, .int .u32 s1.1, .int .u32 s1.2, .bool n1, .int .i64 lo1, .int .i64 hi1, .slice A1 m1 c1, .int .i64 k2, .int .u32 s2.1, .int .u32 s2.2, .bool n2, .int .i64 lo2, .int .i64 hi2, .slice A2 m2 c2, .slice A3 m3 c3, .slice A4 m4 c4, .int .i64 mode]
theorem LawC.form {w : World} {B : Nat} {l : Lw} {cs : List Value} (h : LawC w B l cs) : ∃ k1 s1 n1 lo1 hi1 A1 m1 c1 k2 s2 n2 lo2 hi2 A2 m2 c2 A3 c3 A4 c4, cs = lawL l.name k1 s1 n1 lo1 hi1 A1 m1 c1 k2 s2 n2 lo2 hi2 A2 m2 c2 A3 l.ifs.length c3 A4 l.outs.length c4 l.mode ∧
    PatC w B l.left (patL k1 s1 n1 lo1 hi1 (.slice A1 m1 c1)) ∧ PatC w B l.right (patL k2 s2 n2 lo2 hi2 (.slice A2 m2 c2)) ∧
    Reads w B 2 A3 l.ifs.length (l.ifs.flatMap sndC) ∧ Reads w B 6 A4 l.outs.length (l.outs.flatMap outC) ∧ (∀ s ∈ l.ifs, ok32 s) ∧ (∀ x ∈ l.outs, is32 x.clear ∧ ok32 x.set ∧ is32 x.take) ∧ l.ifs.length ≤ maxLen ∧ l.outs.length ≤ maxLen := by
  obtain ⟨q1, q2, A3, c3, A4, c4, rfl, h2, h3, h4⟩ := h
  obtain ⟨k1, s1, n1, lo1, hi1, A1, m1, c1, rfl⟩ := h2.form
  obtain ⟨k2, s2, n2, lo2, hi2, A2, m2, c2, rfl⟩ := h3.form
  exact ⟨k1, s1, n1, lo1, hi1, A1, m1, c1, k2, s2, n2, lo2, hi2, A2, m2, c2, A3, c3, A4, c4, rfl, h2, h3, h4⟩
theorem law_parts {w : World} {B : Nat} {nm : ByteArray} {left right : Pt} {ifs : List Snd} {outs : List Ot} {mode : Int} {k1 : Int} {s1 : Snd} {n1 : Bool} {lo1 hi1 : Int} {A1 : Option Addr} {m1 c1 : Nat} {k2 : Int} {s2 : Snd} {n2 : Bool} {lo2 hi2 : Int} {A2 : Option Addr} {m2 c2 : Nat} {A3 : Option Addr} {m3 c3 : Nat} {A4 : Option Addr} {m4 c4 : Nat} {mo : Int}
    (h : LawC w B ⟨nm, left, right, ifs, outs, mode⟩ (lawL nm k1 s1 n1 lo1 hi1 A1 m1 c1 k2 s2 n2 lo2 hi2 A2 m2 c2 A3 m3 c3 A4 m4 c4 mo)) :
    PatC w B left (patL k1 s1 n1 lo1 hi1 (.slice A1 m1 c1)) ∧ PatC w B right (patL k2 s2 n2 lo2 hi2 (.slice A2 m2 c2)) ∧ Reads w B 2 A3 ifs.length (ifs.flatMap sndC) ∧ Reads w B 6 A4 outs.length (outs.flatMap outC) := by
  obtain ⟨q1, q2, A3', c3', A4', c4', he, h2, h3, h4, h5, _⟩ := h
  have l1 := h2.len
  have l2 := h3.len
  match q1, l1, q2, l2 with
  | [x0, x1, x2, x3, x4, x5, x6], _, [z0, z1, z2, z3, z4, z5, z6], _ =>
    simp only [lawL, List.cons_append, List.nil_append, List.cons.injEq, and_true, true_and] at he
    obtain ⟨e0, e1, e2, e3, e4, e5, e6, f0, f1, f2, f3, f4, f5, f6, g3, g4, g5⟩ := he
    subst e0 e1 e2 e3 e4 e5 e6 f0 f1 f2 f3 f4 f5 f6
    injection g3 with g3 _ _
    injection g4 with g4 _ _
    subst g3 g4
    exact ⟨h2, h3, h4, h5⟩
theorem Blk.eighteen {w : World} {g : Nat} {t : TypeId} {a0 a1 a2 a3 a4 a5 a6 a7 a8 a9 a10 a11 a12 a13 a14 a15 a16 a17 : Value} (h : Blk w g t #[a0, a1, a2, a3, a4, a5, a6, a7, a8, a9, a10, a11, a12, a13, a14, a15, a16, a17]) :
    w.cell? ⟨g, 0, none⟩ = some a0 ∧ w.cell? ⟨g, 1, none⟩ = some a1 ∧ w.cell? ⟨g, 2, none⟩ = some a2 ∧ w.cell? ⟨g, 3, none⟩ = some a3 ∧ w.cell? ⟨g, 4, none⟩ = some a4 ∧ w.cell? ⟨g, 5, none⟩ = some a5 ∧ w.cell? ⟨g, 6, none⟩ = some a6 ∧ w.cell? ⟨g, 7, none⟩ = some a7 ∧ w.cell? ⟨g, 8, none⟩ = some a8 ∧ w.cell? ⟨g, 9, none⟩ = some a9 ∧ w.cell? ⟨g, 10, none⟩ = some a10 ∧ w.cell? ⟨g, 11, none⟩ = some a11 ∧ w.cell? ⟨g, 12, none⟩ = some a12 ∧ w.cell? ⟨g, 13, none⟩ = some a13 ∧ w.cell? ⟨g, 14, none⟩ = some a14 ∧ w.cell? ⟨g, 15, none⟩ = some a15 ∧ w.cell? ⟨g, 16, none⟩ = some a16 ∧ w.cell? ⟨g, 17, none⟩ = some a17 :=
  ⟨h.cell 0, h.cell 1, h.cell 2, h.cell 3, h.cell 4, h.cell 5, h.cell 6, h.cell 7, h.cell 8, h.cell 9, h.cell 10, h.cell 11, h.cell 12, h.cell 13, h.cell 14, h.cell 15, h.cell 16, h.cell 17⟩
/-- What is valid can be written. -/
def okLaw (l : Lw) : Prop := l.name.size ≤ 1000 ∧ (ptOk l.left = true ∧ ptSize l.left ≤ 40) ∧ (ptOk l.right = true ∧ ptSize l.right ≤ 40) ∧ l.ifs.length ≤ 1000 ∧ l.outs.length ≤ 1000 ∧ (∀ x ∈ l.outs, ok32O x) ∧ 0 ≤ l.mode ∧ l.mode < 4294967296
set_option maxRecDepth 20000 in
set_option maxHeartbeats 4000000 in
theorem wlaw_any (w : World) (base g B : Nat) (l : Lw) (cs : List Value) (xs : List Nat) (h : Wr w base g xs) (hl : LawC w B l cs) (hB : B ≤ base) (hok : okLaw l) (hx : xs.length + 100000 ≤ CAP) :
    Calls Tryd.prog 32 #[wptr g, .agg cs.toArray] w fun e w' => e = .returned (.tuple #[]) ∧ Wr w' base g (xs ++ lawB l) ∧ WStep g w w' := by
  obtain ⟨k1, s1, n1, lo1, hi1, A1, m1, c1, k2, s2, n2, lo2, hi2, A2, m2, c2, A3, c3, A4, c4, rfl, hp1, hp2, hr3, hr4, hs3, -, -, -⟩ := hl.form
  obtain ⟨nm, left, right, ifs, outs, mode⟩ := l
  obtain ⟨hnm, ⟨ho1, hz1⟩, ⟨ho2, hz2⟩, hm3, hm4, hs4, hmo, hmo2⟩ := hok
  simp only at *
  have hgl := h.lt
  have hbg := h.base_le
  have hw1 := (h.alloc (.cells #[wptr g] 66)).alloc (.cells #[.string nm, .int .i64 k1, .int .u32 s1.1, .int .u32 s1.2, .bool n1, .int .i64 lo1, .int .i64 hi1, .slice A1 m1 c1, .int .i64 k2, .int .u32 s2.1, .int .u32 s2.2, .bool n2, .int .i64 lo2, .int .i64 hi2, .slice A2 m2 c2, .slice A3 ifs.length c3, .slice A4 outs.length c4, .int .i64 mode] 31)
  have hh0 := (Blk.new w 66 #[wptr g]).alloc (.cells #[.string nm, .int .i64 k1, .int .u32 s1.1, .int .u32 s1.2, .bool n1, .int .i64 lo1, .int .i64 hi1, .slice A1 m1 c1, .int .i64 k2, .int .u32 s2.1, .int .u32 s2.2, .bool n2, .int .i64 lo2, .int .i64 hi2, .slice A2 m2 c2, .slice A3 ifs.length c3, .slice A4 outs.length c4, .int .i64 mode] 31)
  have hb0 : Blk ((w.alloc (.cells #[wptr g] 66)).alloc (.cells #[.string nm, .int .i64 k1, .int .u32 s1.1, .int .u32 s1.2, .bool n1, .int .i64 lo1, .int .i64 hi1, .slice A1 m1 c1, .int .i64 k2, .int .u32 s2.1, .int .u32 s2.2, .bool n2, .int .i64 lo2, .int .i64 hi2, .slice A2 m2 c2, .slice A3 ifs.length c3, .slice A4 outs.length c4, .int .i64 mode] 31)) (w.heap.size + 1) 31 #[.string nm, .int .i64 k1, .int .u32 s1.1, .int .u32 s1.2, .bool n1, .int .i64 lo1, .int .i64 hi1, .slice A1 m1 c1, .int .i64 k2, .int .u32 s2.1, .int .u32 s2.2, .bool n2, .int .i64 lo2, .int .i64 hi2, .slice A2 m2 c2, .slice A3 ifs.length c3, .slice A4 outs.length c4, .int .i64 mode] := by simpa using Blk.new (w.alloc (.cells #[wptr g] 66)) 31 #[.string nm, .int .i64 k1, .int .u32 s1.1, .int .u32 s1.2, .bool n1, .int .i64 lo1, .int .i64 hi1, .slice A1 m1 c1, .int .i64 k2, .int .u32 s2.1, .int .u32 s2.2, .bool n2, .int .i64 lo2, .int .i64 hi2, .slice A2 m2 c2, .slice A3 ifs.length c3, .slice A4 outs.length c4, .int .i64 mode]
  have hst0 := ((WStep.refl g w).alloc h.lt (.cells #[wptr g] 66)).alloc (by simp; omega) (.cells #[.string nm, .int .i64 k1, .int .u32 s1.1, .int .u32 s1.2, .bool n1, .int .i64 lo1, .int .i64 hi1, .slice A1 m1 c1, .int .i64 k2, .int .u32 s2.1, .int .u32 s2.2, .bool n2, .int .i64 lo2, .int .i64 hi2, .slice A2 m2 c2, .slice A3 ifs.length c3, .slice A4 outs.length c4, .int .i64 mode] 31)
  have hbel0 := (hst0.below h).mono hB
  have hl0 := hl.below hbel0
  have e1 : (textB nm).length ≤ 1005 := by unfold textB; rw [List.length_append, sbytes_len]; have := numB_len nm.size; omega
  have e2 := patB_len left
  have e3 := patB_len right
  have e4 := wordB_len ifs
  have e5 : (outsB outs).length ≤ 5 + 30 * outs.length := by
    show (numB outs.length ++ outs.flatMap outB).length ≤ _
    rw [List.length_append]
    have := numB_len outs.length
    have := flatB_len outB_len outs
    omega
  have hc1 := text_any _ base g nm xs hw1 (by omega) (by omega)
  obtain ⟨Z1, hZ1⟩ : ∃ Z, (w.alloc (.cells #[wptr g] 66)).alloc (.cells #[.string nm, .int .i64 k1, .int .u32 s1.1, .int .u32 s1.2, .bool n1, .int .i64 lo1, .int .i64 hi1, .slice A1 m1 c1, .int .i64 k2, .int .u32 s2.1, .int .u32 s2.2, .bool n2, .int .i64 lo2, .int .i64 hi2, .slice A2 m2 c2, .slice A3 ifs.length c3, .slice A4 outs.length c4, .int .i64 mode] 31) = Z := ⟨_, rfl⟩
  rw [hZ1] at hw1 hh0 hb0 hst0 hbel0 hl0 hc1
  have hzs : Z1.heap.size = w.heap.size + 2 := by rw [← hZ1]; simp
  have HZ1 := Lib.hid hZ1
  show Calls _ _ #[wptr g, .agg #[.string nm, .int .i64 k1, .int .u32 s1.1, .int .u32 s1.2, .bool n1, .int .i64 lo1, .int .i64 hi1, .slice A1 m1 c1, .int .i64 k2, .int .u32 s2.1, .int .u32 s2.2, .bool n2, .int .i64 lo2, .int .i64 hi2, .slice A2 m2 c2, .slice A3 ifs.length c3, .slice A4 outs.length c4, .int .i64 mode]] _ fun e w' => e = .returned (.tuple #[]) ∧ Wr w' base g (xs ++ (textB nm ++ (patB left ++ (patB right ++ (wordB ifs ++ (outsB outs ++ numB mode.toNat)))))) ∧ WStep g w w'
  have hyc := hh0.cell 0
  obtain ⟨y0, y1, y2, y3, y4, y5, y6, y7, y8, y9, y10, y11, y12, y13, y14, y15, y16, y17⟩ := hb0.eighteen
  simp only [List.getElem?_toArray, List.getElem?_cons_zero] at hyc
  have HW0 := Lib.hid hw1; have HH0 := Lib.hid hh0; have HB0 := Lib.hid hb0; have HST0 := Lib.hid hst0; have HL0 := Lib.hid hl0
  clear hw1 hh0 hb0 hst0 hbel0 hl0 h hl hp1 hp2 hr3 hr4 hZ1
  go_enter Tryd.func32, Tryd.ntmps32
  go_wp2_with fail
  rw [HZ1.out]
  clear HZ1
  refine hc1.mono ?_
  rintro e w1 ⟨rfl, h1, h2⟩
  have hstx := HST0.out.trans h2
  have hbx := h2.blk HW0.out HB0.out (by decide) (by omega)
  have hhx := h2.blk HW0.out HH0.out (by decide) (by omega)
  have hlx := HL0.out.below ((h2.below HW0.out).mono hB)
  have hyc := hhx.cell 0
  obtain ⟨y0, y1, y2, y3, y4, y5, y6, y7, y8, y9, y10, y11, y12, y13, y14, y15, y16, y17⟩ := hbx.eighteen
  simp only [List.getElem?_toArray, List.getElem?_cons_zero] at hyc
  obtain ⟨hp1, hp2, hr3, hr4⟩ := law_parts hlx
  have hcx := pattern_any 40 left k1 s1 n1 lo1 hi1 A1 m1 c1 w1 base g B _ hz1 (by omega) ho1 hp1 hB h1 (by rw [List.length_append]; omega)
  have HW1 := Lib.hid h1; have HH1 := Lib.hid hhx; have HB1 := Lib.hid hbx; have HST1 := Lib.hid hstx; have HL1 := Lib.hid hlx; have hc2 := hcx
  clear h1 h2 hstx hbx hhx hlx hcx hp1 hp2 hr3 hr4
  go_wp2_with fail
  refine hc2.mono ?_
  rintro e w2 ⟨rfl, h1, h2⟩
  have hstx := HST1.out.trans h2
  have hbx := h2.blk HW1.out HB1.out (by decide) (by omega)
  have hhx := h2.blk HW1.out HH1.out (by decide) (by omega)
  have hlx := HL1.out.below ((h2.below HW1.out).mono hB)
  have hyc := hhx.cell 0
  obtain ⟨y0, y1, y2, y3, y4, y5, y6, y7, y8, y9, y10, y11, y12, y13, y14, y15, y16, y17⟩ := hbx.eighteen
  simp only [List.getElem?_toArray, List.getElem?_cons_zero] at hyc
  obtain ⟨hp1, hp2, hr3, hr4⟩ := law_parts hlx
  have hcx := pattern_any 40 right k2 s2 n2 lo2 hi2 A2 m2 c2 w2 base g B _ hz2 (by omega) ho2 hp2 hB h1 (by rw [List.length_append, List.length_append]; omega)
  have HW2 := Lib.hid h1; have HH2 := Lib.hid hhx; have HB2 := Lib.hid hbx; have HST2 := Lib.hid hstx; have HL2 := Lib.hid hlx; have hc3 := hcx
  clear h1 h2 hstx hbx hhx hlx hcx hp1 hp2 hr3 hr4
  go_wp2_with fail
  refine hc3.mono ?_
  rintro e w3 ⟨rfl, h1, h2⟩
  have hstx := HST2.out.trans h2
  have hbx := h2.blk HW2.out HB2.out (by decide) (by omega)
  have hhx := h2.blk HW2.out HH2.out (by decide) (by omega)
  have hlx := HL2.out.below ((h2.below HW2.out).mono hB)
  have hyc := hhx.cell 0
  obtain ⟨y0, y1, y2, y3, y4, y5, y6, y7, y8, y9, y10, y11, y12, y13, y14, y15, y16, y17⟩ := hbx.eighteen
  simp only [List.getElem?_toArray, List.getElem?_cons_zero] at hyc
  obtain ⟨hp1, hp2, hr3, hr4⟩ := law_parts hlx
  have hcx := allSnd_any w3 base g B A3 ifs.length c3 ifs _ h1 hr3 hB (by omega) hs3 (by rw [List.length_append, List.length_append, List.length_append]; omega)
  have HW3 := Lib.hid h1; have HH3 := Lib.hid hhx; have HB3 := Lib.hid hbx; have HST3 := Lib.hid hstx; have HL3 := Lib.hid hlx; have hc4 := hcx
  clear h1 h2 hstx hbx hhx hlx hcx hp1 hp2 hr3 hr4
  go_wp2_with fail
  refine hc4.mono ?_
  rintro e w4 ⟨rfl, h1, h2⟩
  have hstx := HST3.out.trans h2
  have hbx := h2.blk HW3.out HB3.out (by decide) (by omega)
  have hhx := h2.blk HW3.out HH3.out (by decide) (by omega)
  have hlx := HL3.out.below ((h2.below HW3.out).mono hB)
  have hyc := hhx.cell 0
  obtain ⟨y0, y1, y2, y3, y4, y5, y6, y7, y8, y9, y10, y11, y12, y13, y14, y15, y16, y17⟩ := hbx.eighteen
  simp only [List.getElem?_toArray, List.getElem?_cons_zero] at hyc
  obtain ⟨hp1, hp2, hr3, hr4⟩ := law_parts hlx
  have hcx := allOut_any w4 base g w.heap.size B A4 outs.length c4 outs _ h1 hhx hr4 hB hm4 hs4 (by rw [List.length_append, List.length_append, List.length_append, List.length_append]; omega)
  have HW4 := Lib.hid h1; have HH4 := Lib.hid hhx; have HB4 := Lib.hid hbx; have HST4 := Lib.hid hstx; have HL4 := Lib.hid hlx; have hc5 := hcx
  clear h1 h2 hstx hbx hhx hlx hcx hp1 hp2 hr3 hr4
  go_wp2_with fail
  refine hc5.mono ?_
  rintro e w5 ⟨rfl, h1, h2⟩
  have hstx := HST4.out.trans h2
  have hbx := h2.blk HW4.out HB4.out (by decide) (by omega)
  have hhx := h2.blk HW4.out HH4.out (by decide) (by omega)
  have hlx := HL4.out.below ((h2.below HW4.out).mono hB)
  have hyc := hhx.cell 0
  obtain ⟨y0, y1, y2, y3, y4, y5, y6, y7, y8, y9, y10, y11, y12, y13, y14, y15, y16, y17⟩ := hbx.eighteen
  simp only [List.getElem?_toArray, List.getElem?_cons_zero] at hyc
  obtain ⟨hp1, hp2, hr3, hr4⟩ := law_parts hlx
  have hcx := count_int w5 base g mode _ h1 hmo hmo2 (by rw [List.length_append, List.length_append, List.length_append, List.length_append, List.length_append]; omega)
  have HW5 := Lib.hid h1; have HH5 := Lib.hid hhx; have HB5 := Lib.hid hbx; have HST5 := Lib.hid hstx; have HL5 := Lib.hid hlx; have hc6 := hcx
  clear h1 h2 hstx hbx hhx hlx hcx hp1 hp2 hr3 hr4
  go_wp2_with fail
  refine hc6.mono ?_
  rintro e w6 ⟨rfl, h1, h2⟩
  have HE := Lib.hid h1; have HF := Lib.hid h2
  clear h1 h2
  go_wp2
  go_end0
  exact ⟨rfl, by rw [← List.append_assoc, ← List.append_assoc, ← List.append_assoc, ← List.append_assoc, ← List.append_assoc]; exact HE.out, HST5.out.trans HF.out⟩
end Go.Proofs.YtipfhamhiaeieaaDoor
