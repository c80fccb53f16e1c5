/-
  layer 43: texts, patterns beside, results, read by the program. Conditions: bytes that can be read. (Printed by rdlaw1.py.)
-/
import Derived.Test.YtipfhamhiaeieaaDoorZcPkPh
import Derived.Test.YtipfhamhiaeieaaDoorZcPkCk
namespace Go.Proofs.YtipfhamhiaeieaaDoor
open Go.RowKit Go.Lib

theorem elem_u8 : Tryd.prog.elem 35 = 5 := by kernel_rfl
theorem size_u8 (W : World) : (sizeOf 5).run Tryd.prog W = .ok 1 W := by
  obtain ⟨i0, hi, hz0, hz1, hz2⟩ := info_parts (show (Tryd.prog.info? 5).map (fun i => (i.zero, i.size, i.bytes)) = some (some (.int .u8 0), 1, 1) by kernel_rfl)
  simp [sizeOf, typeInfo, hi, hz1]
/-- Some bytes of many. -/
theorem cut_lh (A : Option Addr) (n c l h : Nat) (hl : l ≤ h) (hh : h ≤ n) (hn : n ≤ c) : ∃ A1, (∀ W : World, (Instr.slice 35 (.slice A n c) (some (.int .i64 l)) (some (.int .i64 h)) none).run Tryd.prog W = .ok (.slice A1 (h - l) (c - l)) W) ∧
    ∀ (W : World) (B : Nat) (xs : List Value), Reads W B 1 A n xs → Reads W B 1 A1 (h - l) ((xs.drop l).take (h - l)) := by
  refine ⟨if c = l then A else A.map (·.add (l * 1)), fun W => ?_, fun W B xs hr => ?_⟩
  · rw [run_slice_lh W 35 A n c (by rw [elem_u8]; exact Tryd.underlying35) .i64 .i64 l h (by omega) (by omega) (by omega), elem_u8, size_u8]
    simp only [Result.andThen, sliced, Int.toNat_natCast]
  · have := (hr.cut (k := l) (cap := c) (by omega) hn).pre (m := h - l) (by omega)
    simpa using this
theorem cut_hi (A : Option Addr) (n c h : Nat) (hh : h ≤ n) (hn : n ≤ c) : ∃ A1, (∀ W : World, (Instr.slice 35 (.slice A n c) none (some (.int .i64 h)) none).run Tryd.prog W = .ok (.slice A1 h c) W) ∧
    ∀ (W : World) (B : Nat) (xs : List Value), Reads W B 1 A n xs → Reads W B 1 A1 h (xs.take h) := by
  refine ⟨if c = 0 then A else A.map (·.add (0 * 1)), fun W => ?_, fun W B xs hr => ?_⟩
  · rw [run_slice_h W 35 A n c (by rw [elem_u8]; exact Tryd.underlying35) .i64 h (by omega) (by omega), elem_u8, size_u8]
    simp only [Result.andThen, sliced, Int.toNat_natCast, Nat.sub_zero]
  · have := (hr.cut (k := 0) (cap := c) (by omega) hn).pre (m := h) (by omega)
    simpa using this
theorem Rd.put {w : World} {g m c1 : Nat} {bs bs' : List Nat} {A1 : Option Addr} (h : Rd w g bs) (hm : bs'.length = m) (hr : Reads w g 1 A1 m (bs'.map bv)) (h2 : m ≤ c1) (h3 : c1 ≤ maxLen) (hs : ∀ b ∈ bs', b ∈ bs) (hl : m ≤ bs.length) : Rd (w.setCell ⟨g, 0, none⟩ (.slice A1 m c1)) g bs' := by
  obtain ⟨A, c, k1, k2, k3, k4, k6, k5⟩ := h
  subst hm
  exact ⟨A1, c1, by simpa using k1.set_ 0 (.slice A1 bs'.length c1), hr.setCell (Nat.le_refl _) _, h2, h3, by omega, fun b hb => k5 b (hs b hb)⟩
def strW (s : ByteArray) (_ : World) (v : Value) : Prop := v = .string s
set_option maxRecDepth 20000 in
set_option maxHeartbeats 1000000 in
theorem rtext_any (w : World) (g : Nat) (bs : List Nat) (h : Rd w g bs) :
    Calls Tryd.prog 78 #[wptr g] w (RdPost g strW w (textR bs)) := by
  unfold textR
  cases hr : countR bs with
  | none =>
    have hc := rcount_none h hr
    rw [thenR_none hr]
    clear h hr
    go_enter Tryd.func78, Tryd.ntmps78
    go_wp2_with fail
    refine hc.mono ?_
    rintro e w1 ⟨rfl, h1⟩
    exact ⟨rfl, h1, rfl⟩
  | some q =>
    obtain ⟨n, r⟩ := q
    have hc := rcount_some h hr
    have hn := countR_le hr
    rw [thenR_some hr]
    clear h hr
    go_enter Tryd.func78, Tryd.ntmps78
    go_wp2_with fail
    refine hc.mono ?_
    rintro e w1 ⟨rfl, h1, h2⟩
    obtain ⟨A, c, k1, k2, k3, k4, k6, k5⟩ := id h1
    obtain ⟨A1, q1, q2⟩ := cut_hi A r.length c n hn k3
    obtain ⟨A2, p1, p2⟩ := cut_at A r.length c n hn k3
    have hcv := reads_conv (c := c) (bs := r.take n) (by have := q2 w1 g _ k2; rwa [← List.map_take] at this) (fun b hb => k5 b (List.mem_of_mem_take hb))
    have hput := h1.put (bs' := r.drop n) (m := r.length - n) (c1 := c - n) (A1 := A2) (by simp) (by have := p2 w1 g _ k2; rwa [← List.map_drop] at this) (by omega) (by omega) (fun b hb => List.mem_of_mem_drop hb) (by omega)
    have hchs := h2.setCell (p := ⟨g, 0, none⟩) (.inl (by simp)) (.slice A2 (r.length - n) (c - n))
    have hc0 := k1.cell 0
    have hf0 := k1.frozen 0
    simp only [List.getElem?_toArray, List.getElem?_cons_zero] at hc0
    have HPUT := Lib.hid hput; have HCH := Lib.hid hchs
    clear h1 h2 k1 k2 k4 k5 k6 q2 p2 hput hchs hc
    go_wp2
    go_ret
    exact ⟨HCH.out, _, rfl, rfl, HPUT.out⟩
/-- What reading a pattern beside ends in. -/
def SidePost (g : Nat) (w : World) (o : Option (Pt × List Nat)) (e : Ending) (w' : World) : Prop :=
  Chg [g] w w' ∧ match o with
    | some (p, r) => ∃ cs, e = .returned (.agg cs.toArray) ∧ PatF w' (fun b => w.heap.size ≤ b ∧ b < w'.heap.size) p cs ∧ Rd w' g r
    | none => e = .panicked MAL
set_option maxRecDepth 20000 in
set_option maxHeartbeats 2000000 in
theorem rside_any (w : World) (g : Nat) (bs : List Nat) (h : Rd w g bs) :
    Calls Tryd.prog 79 #[wptr g] w (SidePost g w (sideR bs)) := by
  have e1 : (w.alloc (.cells #[.int .i64 0, .int .u32 0, .int .u32 0, .bool false, .int .i64 0, .int .i64 0, .slice none 0 0] 27)).heap.size = w.heap.size + 1 := World.size_alloc _ _
  have x2 := Blk.new (w.alloc (.cells #[.int .i64 0, .int .u32 0, .int .u32 0, .bool false, .int .i64 0, .int .i64 0, .slice none 0 0] 27)) 3 #[.int .i64 40]
  rw [e1] at x2
  have x1 := (Blk.new w 27 #[.int .i64 0, .int .u32 0, .int .u32 0, .bool false, .int .i64 0, .int .i64 0, .slice none 0 0]).alloc (.cells #[.int .i64 40] 3)
  have hch := ((Chg.refl [g] w).alloc (.cells #[.int .i64 0, .int .u32 0, .int .u32 0, .bool false, .int .i64 0, .int .i64 0, .slice none 0 0] 27)).alloc (.cells #[.int .i64 40] 3)
  have hgs := h.lt
  have hc := rpat_any 41 40 _ g (w.heap.size + 1) bs (by omega) (by omega) ((h.alloc (.cells #[.int .i64 0, .int .u32 0, .int .u32 0, .bool false, .int .i64 0, .int .i64 0, .slice none 0 0] 27)).alloc (.cells #[.int .i64 40] 3)) x2 (by omega)
  unfold sideR
  obtain ⟨o, ho⟩ : ∃ o, patR 41 40 bs = o := ⟨_, rfl⟩
  rw [ho] at hc
  have hO : thenR (patR 41 40) (fun x r => some (x.1, r)) bs = o.bind fun x => some (x.1.1, x.2) := by
    cases hoo : o with
    | none => rw [hoo] at ho; rw [thenR_none ho]; rfl
    | some q => obtain ⟨x, t⟩ := q; rw [hoo] at ho; rw [thenR_some ho]; rfl
  rw [hO]
  have HC := Lib.hid hc; have HX := Lib.hid x1; have HCH := Lib.hid hch
  clear hc x1 x2 hch h ho hO
  go_enter Tryd.func79, Tryd.ntmps79
  go_wp2_with fail
  refine HC.out.mono ?_
  rintro e w1 ⟨hc1, hm⟩
  have hc2 : Chg [g] w w1 := HCH.out.new hc1 (fun i hi => by simp at hi; rcases hi with rfl | rfl; exact .inl (by simp); exact .inr (by omega))
  cases o with
  | none =>
    subst hm
    exact ⟨rfl, hc2, rfl⟩
  | some q =>
    obtain ⟨⟨p, left'⟩, r⟩ := q
    obtain ⟨cs, rfl, hpf, hr, hb⟩ := hm
    obtain ⟨k, s, neg, lo, hi, A, n, c, rfl⟩ := hpf.form
    have hbx1 := HX.out.chg hc1 (by simp; omega)
    obtain ⟨z0, z1, z2, z3, z4, z5, z6⟩ := hbx1.seven
    obtain ⟨y0, y1, y2, y3, y4, y5, y6⟩ := hbx1.free7
    have hx2 := hbx1.st7 (.int .i64 k) (.int .u32 s.1) (.int .u32 s.2) (.bool neg) (.int .i64 lo) (.int .i64 hi) (.slice A n c)
    have hs7 := Chg.st7 w1 w.heap.size (.int .i64 k) (.int .u32 s.1) (.int .u32 s.2) (.bool neg) (.int .i64 lo) (.int .i64 hi) (.slice A n c)
    have hfin : SidePost g w (some (p, r)) (.returned (.agg (patL k s neg lo hi (.slice A n c)).toArray)) (st7 w1 w.heap.size (.int .i64 k) (.int .u32 s.1) (.int .u32 s.2) (.bool neg) (.int .i64 lo) (.int .i64 hi) (.slice A n c)) :=
      ⟨hc2.new hs7 (fun i hi => .inr (by rw [List.mem_singleton.1 hi]; exact Nat.le_refl _)), _, rfl, hpf.chg hs7 (fun b hb => ⟨hb.2, by have := hb.1; simp at this ⊢; omega⟩) (fun b hb => ⟨by have := hb.1; simp at this; omega, Nat.lt_of_lt_of_le hb.2 hs7.size⟩), hr.chg hs7 (by simpa using hgs)⟩
    have HX2 := Lib.hid hx2; have HFIN := Lib.hid hfin
    clear hc1 hpf hr hb hbx1 hx2 hfin hs7 hc2
    go_wp2
    obtain ⟨z0, z1, z2, z3, z4, z5, z6⟩ := HX2.out.seven
    exact bodyPost_ret (by simp [results, Tryd.results79, go_sem, z0, z1, z2, z3, z4, z5, z6]) rfl HFIN.out
theorem Blk.free6 {w : World} {g : Nat} {t : TypeId} {a0 a1 a2 a3 a4 a5 : Value} (h : Blk w g t #[a0, a1, a2, a3, a4, a5]) :
    w.frozen? ⟨g, 0, none⟩ = false ∧ w.frozen? ⟨g, 1, none⟩ = false ∧ w.frozen? ⟨g, 2, none⟩ = false ∧ w.frozen? ⟨g, 3, none⟩ = false ∧ w.frozen? ⟨g, 4, none⟩ = false ∧ w.frozen? ⟨g, 5, none⟩ = false :=
  ⟨h.frozen 0, h.frozen 1, h.frozen 2, h.frozen 3, h.frozen 4, h.frozen 5⟩
/-- Six cells of a block, stored. -/
abbrev st6 (w : World) (g : Nat) (c0 c1 c2 c3 c4 c5 : Value) : World := (((((w.setCell ⟨g, 0, none⟩ c0).setCell ⟨g, 1, none⟩ c1).setCell ⟨g, 2, none⟩ c2).setCell ⟨g, 3, none⟩ c3).setCell ⟨g, 4, none⟩ c4).setCell ⟨g, 5, none⟩ c5
theorem Blk.st6 {w : World} {g : Nat} {t : TypeId} {a0 a1 a2 a3 a4 a5 : Value} (h : Blk w g t #[a0, a1, a2, a3, a4, a5]) (c0 c1 c2 c3 c4 c5 : Value) : Blk (st6 w g c0 c1 c2 c3 c4 c5) g t #[c0, c1, c2, c3, c4, c5] := by
  have := (((((h.set_ 0 c0).set_ 1 c1).set_ 2 c2).set_ 3 c3).set_ 4 c4).set_ 5 c5
  simpa using this
theorem Chg.st6 (w : World) (g : Nat) (c0 c1 c2 c3 c4 c5 : Value) : Chg [g] w (st6 w g c0 c1 c2 c3 c4 c5) := by
  have m : ∀ i : Nat, (⟨g, i, none⟩ : Addr).block ∈ [g] ∨ w.heap.size ≤ (⟨g, i, none⟩ : Addr).block := fun i => .inl (List.mem_singleton_self g)
  exact ((((((Chg.refl [g] w).setCell (m 0) c0).setCell (m 1) c1).setCell (m 2) c2).setCell (m 3) c3).setCell (m 4) c4).setCell (m 5) c5
/-- The memory while a thing is read whose parts lie in a block of its own behind the result's. -/
structure OSt (w W : World) (g : Nat) (r : List Nat) (t : TypeId) (zs cs : Array Value) : Prop where
  ch : Chg [g] w W
  rd : Rd W g r
  rs : Blk W w.heap.size t zs
  bx : Blk W (w.heap.size + 1) t cs
  gw : g < w.heap.size
section
variable {w W W' : World} {g : Nat} {r r' : List Nat} {t : TypeId} {zs cs : Array Value}
theorem OSt.start (h : Rd w g r) (t : TypeId) (zs : Array Value) : OSt w ((w.alloc (.cells zs t)).alloc (.cells zs t)) g r t zs zs := by
  have x1 := Blk.new (w.alloc (.cells zs t)) t zs
  rw [World.size_alloc] at x1
  exact ⟨((Chg.refl _ w).alloc _).alloc _, (h.alloc _).alloc _, (Blk.new w _ _).alloc _, x1, h.lt⟩
theorem OSt.chg (h : OSt w W g r t zs cs) (hc : Chg [g] W W') (hr : Rd W' g r') : OSt w W' g r' t zs cs := by
  have h1 := h.gw
  exact ⟨h.ch.trans hc, hr, h.rs.chg hc (by simp; omega), h.bx.chg hc (by simp; omega), h1⟩
theorem OSt.set_ (h : OSt w W g r t zs cs) (i : Nat) (u : Value) : OSt w (W.setCell ⟨w.heap.size + 1, i, none⟩ u) g r t zs (cs.setIfInBounds i u) := by
  have h1 := h.gw
  have hc : Chg [w.heap.size + 1] W (W.setCell ⟨w.heap.size + 1, i, none⟩ u) := (Chg.refl _ _).setCell (.inl (by simp)) u
  exact ⟨h.ch.new hc (fun j hj => .inr (by simp at hj; omega)), h.rd.chg hc (by simp; omega), h.rs.chg hc (by simp), h.bx.set_ i u, h1⟩
end
def outW (x : Ot) (_ : World) (v : Value) : Prop := v = outV x ∧ is32 x.clear ∧ ok32 x.set ∧ is32 x.take
set_option linter.unusedSimpArgs false in
set_option maxRecDepth 20000 in
set_option maxHeartbeats 4000000 in
theorem rout_any (w : World) (g : Nat) (bs : List Nat) (h : Rd w g bs) :
    Calls Tryd.prog 81 #[wptr g] w (RdPost g outW w (outR bs)) := by
  have hs := OSt.start h 60 #[.int .i64 0, .int .u32 0, .int .u32 0, .int .u32 0, .int .u32 0, .int .i64 0]
  obtain ⟨W0, hW0⟩ : ∃ W, (w.alloc (.cells #[.int .i64 0, .int .u32 0, .int .u32 0, .int .u32 0, .int .u32 0, .int .i64 0] 60)).alloc (.cells #[.int .i64 0, .int .u32 0, .int .u32 0, .int .u32 0, .int .u32 0, .int .i64 0] 60) = W := ⟨_, rfl⟩
  rw [hW0] at hs
  have HW0 := Lib.hid hW0; have HS0 := Lib.hid hs
  clear hW0 hs h
  obtain ⟨o, ho⟩ : ∃ o, outR bs = o := ⟨_, rfl⟩
  rw [ho]
  unfold outR at ho
  go_enter Tryd.func81, Tryd.ntmps81
  go_wp2_with fail
  rw [HW0.out]
  clear HW0
  cases hr0 : readN bs with
  | none =>
    rw [thenR_none hr0] at ho
    subst ho
    refine (rint_none HS0.out.rd hr0).mono ?_
    rintro e w1 ⟨rfl, h1⟩
    exact ⟨rfl, HS0.out.ch.trans h1, rfl⟩
  | some q =>
    obtain ⟨a, r0⟩ := q
    rw [thenR_some hr0] at ho
    have hoka : a < 4294967296 := readN_lt hr0 HS0.out.rd.all
    have hc := rint_some HS0.out.rd hr0
    clear hr0
    refine hc.mono ?_
    rintro e u0 ⟨rfl, h1, h2⟩
    have hs := HS0.out.chg h2 h1
    clear h1 h2 hc HS0
    obtain ⟨x0, x1, x2, x3, x4, x5⟩ := hs.bx.six
    obtain ⟨y0, y1, y2, y3, y4, y5⟩ := hs.bx.free6
    have hs2 := (hs.set_ 0 (.int .i64 ((a : Int) - 1)))
    simp only [List.setIfInBounds_toArray, List.set_cons_zero, List.set_cons_succ] at hs2
    obtain ⟨W1, hW⟩ : ∃ W, (u0.setCell ⟨w.heap.size + 1, 0, none⟩ (.int .i64 ((a : Int) - 1))) = W := ⟨_, rfl⟩
    rw [hW] at hs2
    have HW := Lib.hid hW; have HS1 := Lib.hid hs2
    clear hW hs2 hs
    go_wp2_with fail
    rw [HW.out]
    clear HW x0 x1 x2 x3 x4 x5 y0 y1 y2 y3 y4 y5
    cases hr1 : readN r0 with
    | none =>
      rw [thenR_none hr1] at ho
      subst ho
      refine (rnum_none HS1.out.rd hr1).mono ?_
      rintro e w1 ⟨rfl, h1⟩
      exact ⟨rfl, HS1.out.ch.trans h1, rfl⟩
    | some q =>
      obtain ⟨c, r1⟩ := q
      rw [thenR_some hr1] at ho
      have hokc : c < 4294967296 := readN_lt hr1 HS1.out.rd.all
      have hc := rnum_some HS1.out.rd hr1
      clear hr1
      refine hc.mono ?_
      rintro e u1 ⟨rfl, h1, h2⟩
      have hs := HS1.out.chg h2 h1
      clear h1 h2 hc HS1
      obtain ⟨x0, x1, x2, x3, x4, x5⟩ := hs.bx.six
      obtain ⟨y0, y1, y2, y3, y4, y5⟩ := hs.bx.free6
      have hs2 := (hs.set_ 1 (.int .u32 c))
      simp only [List.setIfInBounds_toArray, List.set_cons_zero, List.set_cons_succ] at hs2
      obtain ⟨W2, hW⟩ : ∃ W, (u1.setCell ⟨w.heap.size + 1, 1, none⟩ (.int .u32 c)) = W := ⟨_, rfl⟩
      rw [hW] at hs2
      have HW := Lib.hid hW; have HS2 := Lib.hid hs2
      clear hW hs2 hs
      go_wp2_with fail
      rw [HW.out]
      clear HW x0 x1 x2 x3 x4 x5 y0 y1 y2 y3 y4 y5
      cases hr2 : sndR r1 with
      | none =>
        rw [thenR_none hr2] at ho
        subst ho
        refine (rsnd_none HS2.out.rd hr2).mono ?_
        rintro e w1 ⟨rfl, h1⟩
        exact ⟨rfl, HS2.out.ch.trans h1, rfl⟩
      | some q =>
        obtain ⟨s, r2⟩ := q
        rw [thenR_some hr2] at ho
        have hoks := sndR_ok hr2 HS2.out.rd.all
        have hc := rsnd_some HS2.out.rd hr2
        clear hr2
        refine hc.mono ?_
        rintro e u2 ⟨rfl, h1, h2⟩
        have hs := HS2.out.chg h2 h1
        clear h1 h2 hc HS2
        obtain ⟨x0, x1, x2, x3, x4, x5⟩ := hs.bx.six
        obtain ⟨y0, y1, y2, y3, y4, y5⟩ := hs.bx.free6
        have hs2 := ((hs.set_ 2 (.int .u32 s.1)).set_ 3 (.int .u32 s.2))
        simp only [List.setIfInBounds_toArray, List.set_cons_zero, List.set_cons_succ] at hs2
        obtain ⟨W3, hW⟩ : ∃ W, ((u2.setCell ⟨w.heap.size + 1, 2, none⟩ (.int .u32 s.1)).setCell ⟨w.heap.size + 1, 3, none⟩ (.int .u32 s.2)) = W := ⟨_, rfl⟩
        rw [hW] at hs2
        have HW := Lib.hid hW; have HS3 := Lib.hid hs2
        clear hW hs2 hs
        go_wp2_with fail
        rw [HW.out]
        clear HW x0 x1 x2 x3 x4 x5 y0 y1 y2 y3 y4 y5
        cases hr3 : readN r2 with
        | none =>
          rw [thenR_none hr3] at ho
          subst ho
          refine (rnum_none HS3.out.rd hr3).mono ?_
          rintro e w1 ⟨rfl, h1⟩
          exact ⟨rfl, HS3.out.ch.trans h1, rfl⟩
        | some q =>
          obtain ⟨t, r3⟩ := q
          rw [thenR_some hr3] at ho
          have hokt : t < 4294967296 := readN_lt hr3 HS3.out.rd.all
          have hc := rnum_some HS3.out.rd hr3
          clear hr3
          refine hc.mono ?_
          rintro e u3 ⟨rfl, h1, h2⟩
          have hs := HS3.out.chg h2 h1
          clear h1 h2 hc HS3
          obtain ⟨x0, x1, x2, x3, x4, x5⟩ := hs.bx.six
          obtain ⟨y0, y1, y2, y3, y4, y5⟩ := hs.bx.free6
          have hs2 := (hs.set_ 4 (.int .u32 t))
          simp only [List.setIfInBounds_toArray, List.set_cons_zero, List.set_cons_succ] at hs2
          obtain ⟨W4, hW⟩ : ∃ W, (u3.setCell ⟨w.heap.size + 1, 4, none⟩ (.int .u32 t)) = W := ⟨_, rfl⟩
          rw [hW] at hs2
          have HW := Lib.hid hW; have HS4 := Lib.hid hs2
          clear hW hs2 hs
          go_wp2_with fail
          rw [HW.out]
          clear HW x0 x1 x2 x3 x4 x5 y0 y1 y2 y3 y4 y5
          cases hr4 : readN r3 with
          | none =>
            rw [thenR_none hr4] at ho
            subst ho
            refine (rint_none HS4.out.rd hr4).mono ?_
            rintro e w1 ⟨rfl, h1⟩
            exact ⟨rfl, HS4.out.ch.trans h1, rfl⟩
          | some q =>
            obtain ⟨u, r4⟩ := q
            rw [thenR_some hr4] at ho
            have hoku : u < 4294967296 := readN_lt hr4 HS4.out.rd.all
            have hc := rint_some HS4.out.rd hr4
            clear hr4
            refine hc.mono ?_
            rintro e u4 ⟨rfl, h1, h2⟩
            have hs := HS4.out.chg h2 h1
            clear h1 h2 hc HS4
            obtain ⟨x0, x1, x2, x3, x4, x5⟩ := hs.bx.six
            obtain ⟨y0, y1, y2, y3, y4, y5⟩ := hs.bx.free6
            have hs2 := (hs.set_ 5 (.int .i64 u))
            simp only [List.setIfInBounds_toArray, List.set_cons_zero, List.set_cons_succ] at hs2
            subst ho
            obtain ⟨p0, p1, p2, p3, p4, p5⟩ := hs2.bx.six
            obtain ⟨z0, z1, z2, z3, z4, z5⟩ := hs2.rs.six
            obtain ⟨v0, v1, v2, v3, v4, v5⟩ := hs2.rs.free6
            have hx2 := hs2.rs.st6 (.int .i64 ((a : Int) - 1)) (.int .u32 c) (.int .u32 s.1) (.int .u32 s.2) (.int .u32 t) (.int .i64 u)
            have hs6 := Chg.st6 (u4.setCell ⟨w.heap.size + 1, 5, none⟩ (.int .i64 u)) w.heap.size (.int .i64 ((a : Int) - 1)) (.int .u32 c) (.int .u32 s.1) (.int .u32 s.2) (.int .u32 t) (.int .i64 u)
            have hfin : RdPost g outW w (some (⟨(a : Int) - 1, c, s, t, u⟩, r4)) (.returned (outV ⟨(a : Int) - 1, c, s, t, u⟩)) (st6 (u4.setCell ⟨w.heap.size + 1, 5, none⟩ (.int .i64 u)) w.heap.size (.int .i64 ((a : Int) - 1)) (.int .u32 c) (.int .u32 s.1) (.int .u32 s.2) (.int .u32 t) (.int .i64 u)) :=
              ⟨hs2.ch.new hs6 (fun i hi => .inr (by rw [List.mem_singleton.1 hi]; exact Nat.le_refl _)), _, rfl, ⟨rfl, hokc, hoks, hokt⟩, hs2.rd.chg hs6 (by have := hs2.gw; simpa using this)⟩
            have HX2 := Lib.hid hx2; have HFIN := Lib.hid hfin
            clear hs hs2 hx2 hs6 hfin hoka hokc hoks hokt hoku
            go_wp2
            obtain ⟨z0, z1, z2, z3, z4, z5⟩ := HX2.out.six
            exact bodyPost_ret (by simp [results, Tryd.results81, go_sem, z0, z1, z2, z3, z4, z5]) rfl HFIN.out
end Go.Proofs.YtipfhamhiaeieaaDoor
