/-
  layer 43: the writer's laws. Conditions: a valid law that can be read.
-/
import Derived.Test.YtipfhamhiaeieaaDoorPkPp
namespace Go.Proofs.YtipfhamhiaeieaaDoor
open Go.RowKit Go.Lib

/-- A sound by which a law replaces something: From, Clear, Set, Take, Of. -/
structure Ot where
  src : Int
  clear : Nat
  set : Snd
  take : Nat
  ref : Int
instance : Inhabited Ot := ⟨⟨0, 0, (0, 0), 0, 0⟩⟩
abbrev outC (x : Ot) : List Value := [.int .i64 x.src, .int .u32 x.clear, .int .u32 x.set.1, .int .u32 x.set.2, .int .u32 x.take, .int .i64 x.ref]
abbrev outV (x : Ot) : Value := .agg #[.int .i64 x.src, .int .u32 x.clear, .int .u32 x.set.1, .int .u32 x.set.2, .int .u32 x.take, .int .i64 x.ref]
def outB (x : Ot) : List Nat := numB (x.src + 1).toNat ++ (numB x.clear ++ (sndB x.set ++ (numB x.take ++ numB x.ref.toNat)))
/-- What can be written. -/
def ok32O (x : Ot) : Prop := (-1 ≤ x.src ∧ x.src < 4294967295) ∧ is32 x.clear ∧ ok32 x.set ∧ is32 x.take ∧ (0 ≤ x.ref ∧ x.ref < 4294967296)
theorem outB_len (x : Ot) : (outB x).length ≤ 30 := by
  unfold outB
  rw [List.length_append, List.length_append, List.length_append, List.length_append]
  have := numB_len (x.src + 1).toNat
  have := numB_len x.clear
  have := sndB_len x.set
  have := numB_len x.take
  have := numB_len x.ref.toNat
  omega
theorem Blk.six {w : World} {g : Nat} {t : TypeId} {a0 a1 a2 a3 a4 a5 : Value} (h : Blk w g t #[a0, a1, a2, a3, a4, a5]) :
    w.cell? ⟨g, 0, none⟩ = some a0 ∧ w.cell? ⟨g, 1, none⟩ = some a1 ∧ w.cell? ⟨g, 2, none⟩ = some a2 ∧ w.cell? ⟨g, 3, none⟩ = some a3 ∧ w.cell? ⟨g, 4, none⟩ = some a4 ∧ w.cell? ⟨g, 5, none⟩ = some a5 :=
  ⟨h.cell 0, h.cell 1, h.cell 2, h.cell 3, h.cell 4, h.cell 5⟩
set_option maxRecDepth 20000 in
set_option maxHeartbeats 2000000 in
theorem out_any (w : World) (base g h0 : Nat) (x : Ot) (xs : List Nat) (h : Wr w base g xs) (hh : Blk w h0 66 #[wptr g]) (hok : ok32O x) (hx : xs.length + 30 ≤ CAP) :
    Calls Tryd.prog 61 #[outV x, wptr h0] w fun e w' => e = .returned (.tuple #[]) ∧ Wr w' base g (xs ++ outB x) ∧ WStep g w w' := by
  obtain ⟨⟨a1, a2⟩, hcl, hset, htk, r1, r2⟩ := hok
  obtain ⟨src, clear, set, take, ref⟩ := x
  simp only at *
  have hgh : h0 ≠ g := fun e => by
    subst e
    obtain ⟨v, b1, _⟩ := h
    exact Blk.ne_ b1 hh (by decide) rfl
  have hw0 := h.alloc (.cells #[.int .i64 src, .int .u32 clear, .int .u32 set.1, .int .u32 set.2, .int .u32 take, .int .i64 ref] 60)
  have hB0 := Blk.new w 60 #[.int .i64 src, .int .u32 clear, .int .u32 set.1, .int .u32 set.2, .int .u32 take, .int .i64 ref]
  have hh0 := hh.alloc (.cells #[.int .i64 src, .int .u32 clear, .int .u32 set.1, .int .u32 set.2, .int .u32 take, .int .i64 ref] 60)
  have hst := (WStep.refl g w).alloc h.lt (.cells #[.int .i64 src, .int .u32 clear, .int .u32 set.1, .int .u32 set.2, .int .u32 take, .int .i64 ref] 60)
  have hgl := h.lt
  have hhl := hh.lt
  have hhc := hh0.cell 0
  simp only [List.getElem?_toArray, List.getElem?_cons_zero] at hhc
  have hl1 := numB_len (src + 1).toNat
  have hl2 := numB_len clear
  have hl3 := sndB_len set
  have hl4 := numB_len take
  have hc1 := count_int _ base g (src + 1) xs hw0 (by omega) (by omega) (by omega)
  have HW0 := Lib.hid hw0; have HB0 := Lib.hid hB0; have HST := Lib.hid hst; have HH := Lib.hid hh0
  clear hw0 hB0 hst hh0 h hh
  show Calls _ _ _ _ fun e w' => e = .returned (.tuple #[]) ∧ Wr w' base g (xs ++ (numB (src + 1).toNat ++ (numB clear ++ (sndB set ++ (numB take ++ numB ref.toNat))))) ∧ WStep g w w'
  go_enter Tryd.func61, Tryd.ntmps61
  go_wp2_with fail
  refine hc1.mono ?_
  rintro e w1 ⟨rfl, h1, h2⟩
  have hb1 := h2.blk HW0.out HB0.out (by decide) (by omega)
  have hh1 := h2.blk HW0.out HH.out (by decide) hgh
  obtain ⟨c0, c1, c2, c3, c4, c5⟩ := hb1.six
  have hhc := hh1.cell 0
  simp only [List.getElem?_toArray, List.getElem?_cons_zero] at hhc
  have hc2 := num_any w1 base g clear _ h1 hcl (by rw [List.length_append]; omega)
  have H1 := Lib.hid h1; have H2 := Lib.hid h2; have HB1 := Lib.hid hb1; have HH1 := Lib.hid hh1
  clear h1 h2 hb1 hh1 hc1
  go_wp2_with fail
  refine hc2.mono ?_
  rintro e w2 ⟨rfl, h1, h2⟩
  have hb1 := h2.blk H1.out HB1.out (by decide) (by omega)
  have hh1 := h2.blk H1.out HH1.out (by decide) hgh
  obtain ⟨c0, c1, c2, c3, c4, c5⟩ := hb1.six
  have hhc := hh1.cell 0
  simp only [List.getElem?_toArray, List.getElem?_cons_zero] at hhc
  have hc2 := sound_any w2 base g set _ h1 hset (by rw [List.length_append, List.length_append]; omega)
  have H3 := Lib.hid h1; have H4 := Lib.hid h2; have HB2 := Lib.hid hb1; have HH2 := Lib.hid hh1
  clear h1 h2 hb1 hh1
  go_wp2_with fail
  refine hc2.mono ?_
  rintro e w3 ⟨rfl, h1, h2⟩
  have hb1 := h2.blk H3.out HB2.out (by decide) (by omega)
  have hh1 := h2.blk H3.out HH2.out (by decide) hgh
  obtain ⟨c0, c1, c2, c3, c4, c5⟩ := hb1.six
  have hhc := hh1.cell 0
  simp only [List.getElem?_toArray, List.getElem?_cons_zero] at hhc
  have hc2 := num_any w3 base g take _ h1 htk (by rw [List.length_append, List.length_append, List.length_append]; omega)
  have H5 := Lib.hid h1; have H6 := Lib.hid h2; have HB3 := Lib.hid hb1; have HH3 := Lib.hid hh1
  clear h1 h2 hb1 hh1
  go_wp2_with fail
  refine hc2.mono ?_
  rintro e w4 ⟨rfl, h1, h2⟩
  have hb1 := h2.blk H5.out HB3.out (by decide) (by omega)
  have hh1 := h2.blk H5.out HH3.out (by decide) hgh
  obtain ⟨c0, c1, c2, c3, c4, c5⟩ := hb1.six
  have hhc := hh1.cell 0
  simp only [List.getElem?_toArray, List.getElem?_cons_zero] at hhc
  have hc2 := count_int w4 base g ref _ h1 r1 r2 (by rw [List.length_append, List.length_append, List.length_append, List.length_append]; omega)
  have H7 := Lib.hid h1; have H8 := Lib.hid h2
  clear h1 h2 hb1 hh1
  go_wp2_with fail
  refine hc2.mono ?_
  rintro e w5 ⟨rfl, h1, h2⟩
  have H9 := Lib.hid h1; have H10 := Lib.hid h2
  clear h1 h2
  go_wp2
  go_end0
  exact ⟨rfl, by rw [← List.append_assoc, ← List.append_assoc, ← List.append_assoc, ← List.append_assoc]; exact H9.out, ((((HST.out.trans H2.out).trans H4.out).trans H6.out).trans H8.out).trans H10.out⟩
theorem out_cells {w : World} {B n i : Nat} {A : Option Addr} {l : List Ot} (h : Reads w B 6 A n (l.flatMap outC)) (hi : i < l.length) :
    ∃ ad, A = some ad ∧ ad.block < B ∧ w.cell? (ad.add (i * 6)) = some (.int .i64 l[i].src) ∧ w.cell? ⟨(ad.add (i * 6)).block, (ad.add (i * 6)).off + 1, none⟩ = some (.int .u32 l[i].clear) ∧ w.cell? ⟨(ad.add (i * 6)).block, (ad.add (i * 6)).off + 2, none⟩ = some (.int .u32 l[i].set.1) ∧
      w.cell? ⟨(ad.add (i * 6)).block, (ad.add (i * 6)).off + 3, none⟩ = some (.int .u32 l[i].set.2) ∧ w.cell? ⟨(ad.add (i * 6)).block, (ad.add (i * 6)).off + 4, none⟩ = some (.int .u32 l[i].take) ∧ w.cell? ⟨(ad.add (i * 6)).block, (ad.add (i * 6)).off + 5, none⟩ = some (.int .i64 l[i].ref) := by
  obtain ⟨ad, e, hb, hc⟩ := h.row (fun _ => rfl) (by decide) hi
  exact ⟨ad, e, hb, hc 0 _ rfl, by rw [← add_next ad (i * 6) 0]; exact hc 1 _ rfl, by rw [← add_next ad (i * 6) 1]; exact hc 2 _ rfl, by rw [← add_next ad (i * 6) 2]; exact hc 3 _ rfl, by rw [← add_next ad (i * 6) 3]; exact hc 4 _ rfl, by rw [← add_next ad (i * 6) 4]; exact hc 5 _ rfl⟩
def outsB (l : List Ot) : List Nat := allB outB l
set_option maxRecDepth 20000 in
set_option maxHeartbeats 1000000 in
theorem allOut_any (w : World) (base g h0 B : Nat) (A : Option Addr) (n c : Nat) (l : List Ot) (xs : List Nat) (h : Wr w base g xs) (hh : Blk w h0 66 #[wptr g]) (hr : Reads w B 6 A n (l.flatMap outC)) (hB : B ≤ base) (hn : n ≤ 1000) (hok : ∀ x ∈ l, ok32O x) (hx : xs.length + 5 + 30 * n ≤ CAP) :
    Calls Tryd.prog 60 #[wptr g, .slice A n c, .func (.func 61) #[] #[wptr h0]] w fun e w' => e = .returned (.tuple #[]) ∧ Wr w' base g (xs ++ outsB l) ∧ WStep g w w' := by
  have hwl := hr.len_of (fun _ => rfl) (by decide)
  have hc1 := count_any w base g n xs h (by omega) (by omega)
  have hl := numB_len n
  have hgh : h0 ≠ g := fun e => by
    subst e
    obtain ⟨v, b1, _⟩ := h
    exact Blk.ne_ b1 hh (by decide) rfl
  have HH := Lib.hid h; have HR := Lib.hid hr; have HWL := Lib.hid hwl; have HOK := Lib.hid hok; have HB := Lib.hid hh
  clear h hr hwl hok hh
  go_enter Tryd.func60, Tryd.ntmps60
  go_wp2_with fail
  refine hc1.mono ?_
  rintro e w1 ⟨rfl, h1, h2⟩
  have HW := Lib.hid h1; have HST := Lib.hid h2
  clear h1 h2 hc1
  go_wp2
  go_loopw [14] (fun i wr => ∃ k : Nat, k ≤ n ∧ i = .int .i64 k ∧ Wr wr base g (xs ++ numB n ++ (l.take k).flatMap outB) ∧ WStep g w wr) (fun i _ => n - (intOf i).toNat)
  case atStart => exact ⟨0, by omega, rfl, by simpa using HW.out, HST.out⟩
  case round =>
    obtain ⟨k, hk, rfl, hwr, hst⟩ := hrel
    have HWR := Lib.hid hwr; have HST2 := Lib.hid hst
    clear hwr hst
    by_cases hlt : k < n
    · have hkl : k < l.length := by rw [HWL.out]; exact hlt
      have hkI : (k : Int) < (n : Int) := by omega
      obtain ⟨ad, rfl, had, hc0, hc1, hc2, hc3, hc4, hc5⟩ := out_cells (HST2.out.reads HH.out HR.out hB) hkl
      have hlen : (xs ++ numB n ++ (l.take k).flatMap outB).length + 30 ≤ CAP := by
        have := flatB_len outB_len (l.take k)
        rw [List.length_append, List.length_append]
        rw [List.length_take, HWL.out] at this
        omega
      have hts := take_flat outB l k hkl
      have hcall := out_any _ base g h0 l[k] _ (HWR.out.alloc (.cells #[.int .i64 l[k].src, .int .u32 l[k].clear, .int .u32 l[k].set.1, .int .u32 l[k].set.2, .int .u32 l[k].take, .int .i64 l[k].ref] 60)) ((HST2.out.blk HH.out HB.out (by decide) hgh).alloc _) (HOK.out _ (List.getElem_mem hkl)) hlen
      have HTS := Lib.hid hts; have HCALL := Lib.hid hcall
      clear hts hcall hlen
      generalize outB l[k] = ob at *
      generalize l[k] = x at *
      go_wp2_with fail
      refine HCALL.out.mono ?_
      rintro e w2 ⟨rfl, h3, h4⟩
      have H3 := Lib.hid h3; have H4 := Lib.hid h4
      clear h3 h4
      go_wp2
      go_roundw
      case rel => exact ⟨k + 1, by omega, by go_num, by rw [HTS.out, ← List.append_assoc]; exact H3.out, (HST2.out.alloc HWR.out.lt _).trans H4.out⟩
      case measure => simp [intOf]; omega
    · obtain rfl : k = n := by omega
      go_wp2
      go_end0
      refine ⟨rfl, ?_, HST2.out⟩
      have := HWR.out
      rw [List.take_of_length_le (by rw [HWL.out]; exact Nat.le_refl _), List.append_assoc] at this
      show Wr wr base g (xs ++ (numB l.length ++ l.flatMap outB))
      rw [HWL.out]; exact this
end Go.Proofs.YtipfhamhiaeieaaDoor
