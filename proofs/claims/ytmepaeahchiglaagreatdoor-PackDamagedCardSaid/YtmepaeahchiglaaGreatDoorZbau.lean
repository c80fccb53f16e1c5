/-
  layer 43: texts, patterns beside, results, read by the program. Conditions: bytes that can be read. (Printed by rdlaw1.py.)
-/
import Derived.Test.YtmepaeahchiglaaGreatDoorZbPkPh
import Derived.Test.YtmepaeahchiglaaGreatDoorZbPkCk
import Derived.Test.YtmepaeahchiglaaGreatDoorZban
namespace Go.Proofs.YtmepaeahchiglaaGreatDoor
open Go.RowKit Go.Lib

theorem elem_u8 : Tryz.prog.elem 36 = 5 := by kernel_rfl
theorem size_u8 (W : World) : (sizeOf 5).run Tryz.prog W = .ok 1 W := by
  obtain ⟨i0, hi, hz0, hz1, hz2⟩ := info_parts (show (Tryz.prog.info? 5).map (fun i => (i.zero, i.size, i.bytes)) = some (some (.int .u8 0), 1, 1) by kernel_rfl)
  simp [sizeOf, typeInfo, hi, hz1]
/-- Some bytes of many. -/
theorem cut_lh (A : Option Addr) (n c l h : Nat) (hl : l ≤ h) (hh : h ≤ n) (hn : n ≤ c) : ∃ A1, (∀ W : World, (Instr.slice 36 (.slice A n c) (some (.int .i64 l)) (some (.int .i64 h)) none).run Tryz.prog W = .ok (.slice A1 (h - l) (c - l)) W) ∧
    ∀ (W : World) (B : Nat) (xs : List Value), Reads W B 1 A n xs → Reads W B 1 A1 (h - l) ((xs.drop l).take (h - l)) := by
  refine ⟨if c = l then A else A.map (·.add (l * 1)), fun W => ?_, fun W B xs hr => ?_⟩
  · rw [run_slice_lh W 36 A n c (by rw [elem_u8]; exact Tryz.underlying36) .i64 .i64 l h (by omega) (by omega) (by omega), elem_u8, size_u8]
    simp only [Result.andThen, sliced, Int.toNat_natCast]
  · have := (hr.cut (k := l) (cap := c) (by omega) hn).pre (m := h - l) (by omega)
    simpa using this
theorem cut_hi (A : Option Addr) (n c h : Nat) (hh : h ≤ n) (hn : n ≤ c) : ∃ A1, (∀ W : World, (Instr.slice 36 (.slice A n c) none (some (.int .i64 h)) none).run Tryz.prog W = .ok (.slice A1 h c) W) ∧
    ∀ (W : World) (B : Nat) (xs : List Value), Reads W B 1 A n xs → Reads W B 1 A1 h (xs.take h) := by
  refine ⟨if c = 0 then A else A.map (·.add (0 * 1)), fun W => ?_, fun W B xs hr => ?_⟩
  · rw [run_slice_h W 36 A n c (by rw [elem_u8]; exact Tryz.underlying36) .i64 h (by omega) (by omega), elem_u8, size_u8]
    simp only [Result.andThen, sliced, Int.toNat_natCast, Nat.sub_zero]
  · have := (hr.cut (k := 0) (cap := c) (by omega) hn).pre (m := h) (by omega)
    simpa using this
theorem Rd.put {w : World} {g m c1 : Nat} {bs bs' : List Nat} {A1 : Option Addr} (h : Rd w g bs) (hm : bs'.length = m) (hr : Reads w g 1 A1 m (bs'.map bv)) (h2 : m ≤ c1) (h3 : c1 ≤ maxLen) (hs : ∀ b ∈ bs', b ∈ bs) (hl : m ≤ bs.length) : Rd (w.setCell ⟨g, 0, none⟩ (.slice A1 m c1)) g bs' := by
  obtain ⟨A, c, k1, k2, k3, k4, k6, k5⟩ := h
  subst hm
  exact ⟨A1, c1, by simpa using k1.set_ 0 (.slice A1 bs'.length c1), hr.setCell (Nat.le_refl _) _, h2, h3, by omega, fun b hb => k5 b (hs b hb)⟩
def strW (s : ByteArray) (_ : World) (v : Value) : Prop := v = .string s
set_option maxRecDepth 20000 in
set_option maxHeartbeats 1000000 in
theorem rtext_any (w : World) (g : Nat) (bs : List Nat) (h : Rd w g bs) :
    Calls Tryz.prog 108 #[wptr g] w (RdPost g strW w (textR bs)) := by
  unfold textR
  cases hr : countR bs with
  | none =>
    have hc := rcount_none h hr
    rw [thenR_none hr]
    clear h hr
    go_enter Tryz.func108, Tryz.ntmps108
    go_wp2_with fail
    refine hc.mono ?_
    rintro e w1 ⟨rfl, h1⟩
    exact ⟨rfl, h1, rfl⟩
  | some q =>
    obtain ⟨n, r⟩ := q
    have hc := rcount_some h hr
    have hn := countR_le hr
    rw [thenR_some hr]
    clear h hr
    go_enter Tryz.func108, Tryz.ntmps108
    go_wp2_with fail
    refine hc.mono ?_
    rintro e w1 ⟨rfl, h1, h2⟩
    obtain ⟨A, c, k1, k2, k3, k4, k6, k5⟩ := id h1
    obtain ⟨A1, q1, q2⟩ := cut_hi A r.length c n hn k3
    obtain ⟨A2, p1, p2⟩ := cut_at A r.length c n hn k3
    have hcv := reads_conv (c := c) (bs := r.take n) (by have := q2 w1 g _ k2; rwa [← List.map_take] at this) (fun b hb => k5 b (List.mem_of_mem_take hb))
    have hput := h1.put (bs' := r.drop n) (m := r.length - n) (c1 := c - n) (A1 := A2) (by simp) (by have := p2 w1 g _ k2; rwa [← List.map_drop] at this) (by omega) (by omega) (fun b hb => List.mem_of_mem_drop hb) (by omega)
    have hchs := h2.setCell (p := ⟨g, 0, none⟩) (.inl (by simp)) (.slice A2 (r.length - n) (c - n))
    have hc0 := k1.cell 0
    have hf0 := k1.frozen 0
    simp only [List.getElem?_toArray, List.getElem?_cons_zero] at hc0
    have HPUT := Lib.hid hput; have HCH := Lib.hid hchs
    clear h1 h2 k1 k2 k4 k5 k6 q2 p2 hput hchs hc
    go_wp2
    go_ret
    exact ⟨HCH.out, _, rfl, rfl, HPUT.out⟩
/-- What reading a pattern beside ends in. -/
def SidePost (g : Nat) (w : World) (o : Option (Pt × List Nat)) (e : Ending) (w' : World) : Prop :=
  Chg [g] w w' ∧ match o with
    | some (p, r) => ∃ cs, e = .returned (.agg cs.toArray) ∧ PatF w' (fun b => w.heap.size ≤ b ∧ b < w'.heap.size) p cs ∧ Rd w' g r
    | none => e = .panicked MAL
set_option maxRecDepth 20000 in
set_option maxHeartbeats 2000000 in
theorem rside_any (w : World) (g : Nat) (bs : List Nat) (h : Rd w g bs) :
    Calls Tryz.prog 135 #[wptr g] w (SidePost g w (sideR bs)) := by
  have e1 : (w.alloc (.cells #[.int .i64 0, .int .u32 0, .int .u32 0, .bool false, .int .i64 0, .int .i64 0, .slice none 0 0] 58)).heap.size = w.heap.size + 1 := World.size_alloc _ _
  have x2 := Blk.new (w.alloc (.cells #[.int .i64 0, .int .u32 0, .int .u32 0, .bool false, .int .i64 0, .int .i64 0, .slice none 0 0] 58)) 3 #[.int .i64 40]
  rw [e1] at x2
  have x1 := (Blk.new w 58 #[.int .i64 0, .int .u32 0, .int .u32 0, .bool false, .int .i64 0, .int .i64 0, .slice none 0 0]).alloc (.cells #[.int .i64 40] 3)
  have hch := ((Chg.refl [g] w).alloc (.cells #[.int .i64 0, .int .u32 0, .int .u32 0, .bool false, .int .i64 0, .int .i64 0, .slice none 0 0] 58)).alloc (.cells #[.int .i64 40] 3)
  have hgs := h.lt
  have hc := rpat_any 41 40 _ g (w.heap.size + 1) bs (by omega) (by omega) ((h.alloc (.cells #[.int .i64 0, .int .u32 0, .int .u32 0, .bool false, .int .i64 0, .int .i64 0, .slice none 0 0] 58)).alloc (.cells #[.int .i64 40] 3)) x2 (by omega)
  unfold sideR
  obtain ⟨o, ho⟩ : ∃ o, patR 41 40 bs = o := ⟨_, rfl⟩
  rw [ho] at hc
  have hO : thenR (patR 41 40) (fun x r => some (x.1, r)) bs = o.bind fun x => some (x.1.1, x.2) := by
    cases hoo : o with
    | none => rw [hoo] at ho; rw [thenR_none ho]; rfl
    | some q => obtain ⟨x, t⟩ := q; rw [hoo] at ho; rw [thenR_some ho]; rfl
  rw [hO]
  have HC := Lib.hid hc; have HX := Lib.hid x1; have HCH := Lib.hid hch
  clear hc x1 x2 hch h ho hO
  go_enter Tryz.func135, Tryz.ntmps135
  go_wp2_with fail
  refine HC.out.mono ?_
  rintro e w1 ⟨hc1, hm⟩
  have hc2 : Chg [g] w w1 := HCH.out.new hc1 (fun i hi => by simp at hi; rcases hi with rfl | rfl; exact .inl (by simp); exact .inr (by omega))
  cases o with
  | none =>
    subst hm
    exact ⟨rfl, hc2, rfl⟩
  | some q =>
    obtain ⟨⟨p, left'⟩, r⟩ := q
    obtain ⟨cs, rfl, hpf, hr, hb⟩ := hm
    obtain ⟨k, s, neg, lo, hi, A, n, c, rfl⟩ := hpf.form
    have hbx1 := HX.out.chg hc1 (by simp; omega)
    obtain ⟨z0, z1, z2, z3, z4, z5, z6⟩ := hbx1.seven
    obtain ⟨y0, y1, y2, y3, y4, y5, y6⟩ := hbx1.free7
    have hx2 := hbx1.st7 (.int .i64 k) (.int .u32 s.1) (.int .u32 s.2) (.bool neg) (.int .i64 lo) (.int .i64 hi) (.slice A n c)
    have hs7 := Chg.st7 w1 w.heap.size (.int .i64 k) (.int .u32 s.1) (.int .u32 s.2) (.bool neg) (.int .i64 lo) (.int .i64 hi) (.slice A n c)
    have hfin : SidePost g w (some (p, r)) (.returned (.agg (patL k s neg lo hi (.slice A n c)).toArray)) (st7 w1 w.heap.size (.int .i64 k) (.int .u32 s.1) (.int .u32 s.2) (.bool neg) (.int .i64 lo) (.int .i64 hi) (.slice A n c)) :=
      ⟨hc2.new hs7 (fun i hi => .inr (by rw [List.mem_singleton.1 hi]; exact Nat.le_refl _)), _, rfl, hpf.chg hs7 (fun b hb => ⟨hb.2, by have := hb.1; simp at this ⊢; omega⟩) (fun b hb => ⟨by have := hb.1; simp at this; omega, Nat.lt_of_lt_of_le hb.2 hs7.size⟩), hr.chg hs7 (by simpa using hgs)⟩
    have HX2 := Lib.hid hx2; have HFIN := Lib.hid hfin
    clear hc1 hpf hr hb hbx1 hx2 hfin hs7 hc2
    go_wp2
    obtain ⟨z0, z1, z2, z3, z4, z5, z6⟩ := HX2.out.seven
    exact bodyPost_ret (by simp [results, Tryz.results135, go_sem, z0, z1, z2, z3, z4, z5, z6]) rfl HFIN.out
theorem Blk.free6 {w : World} {g : Nat} {t : TypeId} {a0 a1 a2 a3 a4 a5 : Value} (h : Blk w g t #[a0, a1, a2, a3, a4, a5]) :
    w.frozen? ⟨g, 0, none⟩ = false ∧ w.frozen? ⟨g, 1, none⟩ = false ∧ w.frozen? ⟨g, 2, none⟩ = false ∧ w.frozen? ⟨g, 3, none⟩ = false ∧ w.frozen? ⟨g, 4, none⟩ = false ∧ w.frozen? ⟨g, 5, none⟩ = false :=
  ⟨h.frozen 0, h.frozen 1, h.frozen 2, h.frozen 3, h.frozen 4, h.frozen 5⟩
/-- Six cells of a block, stored. -/
abbrev st6 (w : World) (g : Nat) (c0 c1 c2 c3 c4 c5 : Value) : World := (((((w.setCell ⟨g, 0, none⟩ c0).setCell ⟨g, 1, none⟩ c1).setCell ⟨g, 2, none⟩ c2).setCell ⟨g, 3, none⟩ c3).setCell ⟨g, 4, none⟩ c4).setCell ⟨g, 5, none⟩ c5
theorem Blk.st6 {w : World} {g : Nat} {t : TypeId} {a0 a1 a2 a3 a4 a5 : Value} (h : Blk w g t #[a0, a1, a2, a3, a4, a5]) (c0 c1 c2 c3 c4 c5 : Value) : Blk (st6 w g c0 c1 c2 c3 c4 c5) g t #[c0, c1, c2, c3, c4, c5] := by
  have := (((((h.set_ 0 c0).set_ 1 c1).set_ 2 c2).set_ 3 c3).set_ 4 c4).set_ 5 c5
  simpa using this
theorem Chg.st6 (w : World) (g : Nat) (c0 c1 c2 c3 c4 c5 : Value) : Chg [g] w (st6 w g c0 c1 c2 c3 c4 c5) := by
  have m : ∀ i : Nat, (⟨g, i, none⟩ : Addr).block ∈ [g] ∨ w.heap.size ≤ (⟨g, i, none⟩ : Addr).block := fun i => .inl (List.mem_singleton_self g)
  exact ((((((Chg.refl [g] w).setCell (m 0) c0).setCell (m 1) c1).setCell (m 2) c2).setCell (m 3) c3).setCell (m 4) c4).setCell (m 5) c5
/-- The memory while a thing is read whose parts lie in a block of its own behind the result's. -/
structure OSt (w W : World) (g : Nat) (r : List Nat) (t : TypeId) (zs cs : Array Value) : Prop where
  ch : Chg [g] w W
  rd : Rd W g r
  rs : Blk W w.heap.size t zs
  bx : Blk W (w.heap.size + 1) t cs
  gw : g < w.heap.size
section
variable {w W W' : World} {g : Nat} {r r' : List Nat} {t : TypeId} {zs cs : Array Value}
theorem OSt.start (h : Rd w g r) (t : TypeId) (zs : Array Value) : OSt w ((w.alloc (.cells zs t)).alloc (.cells zs t)) g r t zs zs := by
  have x1 := Blk.new (w.alloc (.cells zs t)) t zs
  rw [World.size_alloc] at x1
  exact ⟨((Chg.refl _ w).alloc _).alloc _, (h.alloc _).alloc _, (Blk.new w _ _).alloc _, x1, h.lt⟩
theorem OSt.chg (h : OSt w W g r t zs cs) (hc : Chg [g] W W') (hr : Rd W' g r') : OSt w W' g r' t zs cs := by
  have h1 := h.gw
  exact ⟨h.ch.trans hc, hr, h.rs.chg hc (by simp; omega), h.bx.chg hc (by simp; omega), h1⟩
theorem OSt.set_ (h : OSt w W g r t zs cs) (i : Nat) (u : Value) : OSt w (W.setCell ⟨w.heap.size + 1, i, none⟩ u) g r t zs (cs.setIfInBounds i u) := by
  have h1 := h.gw
  have hc : Chg [w.heap.size + 1] W (W.setCell ⟨w.heap.size + 1, i, none⟩ u) := (Chg.refl _ _).setCell (.inl (by simp)) u
  exact ⟨h.ch.new hc (fun j hj => .inr (by simp at hj; omega)), h.rd.chg hc (by simp; omega), h.rs.chg hc (by simp), h.bx.set_ i u, h1⟩
end
def outW (x : Ot) (_ : World) (v : Value) : Prop := v = outV x ∧ is32 x.clear ∧ ok32 x.set ∧ is32 x.take
set_option linter.unusedSimpArgs false in
set_option maxRecDepth 20000 in
set_option maxHeartbeats 4000000 in
theorem rout_any (w : World) (g : Nat) (bs : List Nat) (h : Rd w g bs) :
    Calls Tryz.prog 137 #[wptr g] w (RdPost g outW w (outR bs)) := by
  have hs := OSt.start h 90 #[.int .i64 0, .int .u32 0, .int .u32 0, .int .u32 0, .int .u32 0, .int .i64 0]
  obtain ⟨W0, hW0⟩ : ∃ W, (w.alloc (.cells #[.int .i64 0, .int .u32 0, .int .u32 0, .int .u32 0, .int .u32 0, .int .i64 0] 90)).alloc (.cells #[.int .i64 0, .int .u32 0, .int .u32 0, .int .u32 0, .int .u32 0, .int .i64 0] 90) = W := ⟨_, rfl⟩
  rw [hW0] at hs
  have HW0 := Lib.hid hW0; have HS0 := Lib.hid hs
  clear hW0 hs h
  obtain ⟨o, ho⟩ : ∃ o, outR bs = o := ⟨_, rfl⟩
  rw [ho]
  unfold outR at ho
  go_enter Tryz.func137, Tryz.ntmps137
  go_wp2_with fail
  rw [HW0.out]
  clear HW0
  cases hr0 : readN bs with
  | none =>
    rw [thenR_none hr0] at ho
    subst ho
    refine (rint_none HS0.out.rd hr0).mono ?_
    rintro e w1 ⟨rfl, h1⟩
    exact ⟨rfl, HS0.out.ch.trans h1, rfl⟩
  | some q =>
    obtain ⟨a, r0⟩ := q
    rw [thenR_some hr0] at ho
    have hoka : a < 4294967296 := readN_lt hr0 HS0.out.rd.all
    have hc := rint_some HS0.out.rd hr0
    clear hr0
    refine hc.mono ?_
    rintro e u0 ⟨rfl, h1, h2⟩
    have hs := HS0.out.chg h2 h1
    clear h1 h2 hc HS0
    obtain ⟨x0, x1, x2, x3, x4, x5⟩ := hs.bx.six
    obtain ⟨y0, y1, y2, y3, y4, y5⟩ := hs.bx.free6
    have hs2 := (hs.set_ 0 (.int .i64 ((a : Int) - 1)))
    simp only [List.setIfInBounds_toArray, List.set_cons_zero, List.set_cons_succ] at hs2
    obtain ⟨W1, hW⟩ : ∃ W, (u0.setCell ⟨w.heap.size + 1, 0, none⟩ (.int .i64 ((a : Int) - 1))) = W := ⟨_, rfl⟩
    rw [hW] at hs2
    have HW := Lib.hid hW; have HS1 := Lib.hid hs2
    clear hW hs2 hs
    go_wp2_with fail
    rw [HW.out]
    clear HW x0 x1 x2 x3 x4 x5 y0 y1 y2 y3 y4 y5
    cases hr1 : readN r0 with
    | none =>
      rw [thenR_none hr1] at ho
      subst ho
      refine (rnum_none HS1.out.rd hr1).mono ?_
      rintro e w1 ⟨rfl, h1⟩
      exact ⟨rfl, HS1.out.ch.trans h1, rfl⟩
    | some q =>
      obtain ⟨c, r1⟩ := q
      rw [thenR_some hr1] at ho
      have hokc : c < 4294967296 := readN_lt hr1 HS1.out.rd.all
      have hc := rnum_some HS1.out.rd hr1
      clear hr1
      refine hc.mono ?_
      rintro e u1 ⟨rfl, h1, h2⟩
      have hs := HS1.out.chg h2 h1
      clear h1 h2 hc HS1
      obtain ⟨x0, x1, x2, x3, x4, x5⟩ := hs.bx.six
      obtain ⟨y0, y1, y2, y3, y4, y5⟩ := hs.bx.free6
      have hs2 := (hs.set_ 1 (.int .u32 c))
      simp only [List.setIfInBounds_toArray, List.set_cons_zero, List.set_cons_succ] at hs2
      obtain ⟨W2, hW⟩ : ∃ W, (u1.setCell ⟨w.heap.size + 1, 1, none⟩ (.int .u32 c)) = W := ⟨_, rfl⟩
      rw [hW] at hs2
      have HW := Lib.hid hW; have HS2 := Lib.hid hs2
      clear hW hs2 hs
      go_wp2_with fail
      rw [HW.out]
      clear HW x0 x1 x2 x3 x4 x5 y0 y1 y2 y3 y4 y5
      cases hr2 : sndR r1 with
      | none =>
        rw [thenR_none hr2] at ho
        subst ho
        refine (rsnd_none HS2.out.rd hr2).mono ?_
        rintro e w1 ⟨rfl, h1⟩
        exact ⟨rfl, HS2.out.ch.trans h1, rfl⟩
      | some q =>
        obtain ⟨s, r2⟩ := q
        rw [thenR_some hr2] at ho
        have hoks := sndR_ok hr2 HS2.out.rd.all
        have hc := rsnd_some HS2.out.rd hr2
        clear hr2
        refine hc.mono ?_
        rintro e u2 ⟨rfl, h1, h2⟩
        have hs := HS2.out.chg h2 h1
        clear h1 h2 hc HS2
        obtain ⟨x0, x1, x2, x3, x4, x5⟩ := hs.bx.six
        obtain ⟨y0, y1, y2, y3, y4, y5⟩ := hs.bx.free6
        have hs2 := ((hs.set_ 2 (.int .u32 s.1)).set_ 3 (.int .u32 s.2))
        simp only [List.setIfInBounds_toArray, List.set_cons_zero, List.set_cons_succ] at hs2
        obtain ⟨W3, hW⟩ : ∃ W, ((u2.setCell ⟨w.heap.size + 1, 2, none⟩ (.int .u32 s.1)).setCell ⟨w.heap.size + 1, 3, none⟩ (.int .u32 s.2)) = W := ⟨_, rfl⟩
        rw [hW] at hs2
        have HW := Lib.hid hW; have HS3 := Lib.hid hs2
        clear hW hs2 hs
        go_wp2_with fail
        rw [HW.out]
        clear HW x0 x1 x2 x3 x4 x5 y0 y1 y2 y3 y4 y5
        cases hr3 : readN r2 with
        | none =>
          rw [thenR_none hr3] at ho
          subst ho
          refine (rnum_none HS3.out.rd hr3).mono ?_
          rintro e w1 ⟨rfl, h1⟩
          exact ⟨rfl, HS3.out.ch.trans h1, rfl⟩
        | some q =>
          obtain ⟨t, r3⟩ := q
          rw [thenR_some hr3] at ho
          have hokt : t < 4294967296 := readN_lt hr3 HS3.out.rd.all
          have hc := rnum_some HS3.out.rd hr3
          clear hr3
          refine hc.mono ?_
          rintro e u3 ⟨rfl, h1, h2⟩
          have hs := HS3.out.chg h2 h1
          clear h1 h2 hc HS3
          obtain ⟨x0, x1, x2, x3, x4, x5⟩ := hs.bx.six
          obtain ⟨y0, y1, y2, y3, y4, y5⟩ := hs.bx.free6
          have hs2 := (hs.set_ 4 (.int .u32 t))
          simp only [List.setIfInBounds_toArray, List.set_cons_zero, List.set_cons_succ] at hs2
          obtain ⟨W4, hW⟩ : ∃ W, (u3.setCell ⟨w.heap.size + 1, 4, none⟩ (.int .u32 t)) = W := ⟨_, rfl⟩
          rw [hW] at hs2
          have HW := Lib.hid hW; have HS4 := Lib.hid hs2
          clear hW hs2 hs
          go_wp2_with fail
          rw [HW.out]
          clear HW x0 x1 x2 x3 x4 x5 y0 y1 y2 y3 y4 y5
          cases hr4 : readN r3 with
          | none =>
            rw [thenR_none hr4] at ho
            subst ho
            refine (rint_none HS4.out.rd hr4).mono ?_
            rintro e w1 ⟨rfl, h1⟩
            exact ⟨rfl, HS4.out.ch.trans h1, rfl⟩
          | some q =>
            obtain ⟨u, r4⟩ := q
            rw [thenR_some hr4] at ho
            have hoku : u < 4294967296 := readN_lt hr4 HS4.out.rd.all
            have hc := rint_some HS4.out.rd hr4
            clear hr4
            refine hc.mono ?_
            rintro e u4 ⟨rfl, h1, h2⟩
            have hs := HS4.out.chg h2 h1
            clear h1 h2 hc HS4
            obtain ⟨x0, x1, x2, x3, x4, x5⟩ := hs.bx.six
            obtain ⟨y0, y1, y2, y3, y4, y5⟩ := hs.bx.free6
            have hs2 := (hs.set_ 5 (.int .i64 u))
            simp only [List.setIfInBounds_toArray, List.set_cons_zero, List.set_cons_succ] at hs2
            subst ho
            obtain ⟨p0, p1, p2, p3, p4, p5⟩ := hs2.bx.six
            obtain ⟨z0, z1, z2, z3, z4, z5⟩ := hs2.rs.six
            obtain ⟨v0, v1, v2, v3, v4, v5⟩ := hs2.rs.free6
            have hx2 := hs2.rs.st6 (.int .i64 ((a : Int) - 1)) (.int .u32 c) (.int .u32 s.1) (.int .u32 s.2) (.int .u32 t) (.int .i64 u)
            have hs6 := Chg.st6 (u4.setCell ⟨w.heap.size + 1, 5, none⟩ (.int .i64 u)) w.heap.size (.int .i64 ((a : Int) - 1)) (.int .u32 c) (.int .u32 s.1) (.int .u32 s.2) (.int .u32 t) (.int .i64 u)
            have hfin : RdPost g outW w (some (⟨(a : Int) - 1, c, s, t, u⟩, r4)) (.returned (outV ⟨(a : Int) - 1, c, s, t, u⟩)) (st6 (u4.setCell ⟨w.heap.size + 1, 5, none⟩ (.int .i64 u)) w.heap.size (.int .i64 ((a : Int) - 1)) (.int .u32 c) (.int .u32 s.1) (.int .u32 s.2) (.int .u32 t) (.int .i64 u)) :=
              ⟨hs2.ch.new hs6 (fun i hi => .inr (by rw [List.mem_singleton.1 hi]; exact Nat.le_refl _)), _, rfl, ⟨rfl, hokc, hoks, hokt⟩, hs2.rd.chg hs6 (by have := hs2.gw; simpa using this)⟩
            have HX2 := Lib.hid hx2; have HFIN := Lib.hid hfin
            clear hs hs2 hx2 hs6 hfin hoka hokc hoks hokt hoku
            go_wp2
            obtain ⟨z0, z1, z2, z3, z4, z5⟩ := HX2.out.six
            exact bodyPost_ret (by simp [results, Tryz.results137, go_sem, z0, z1, z2, z3, z4, z5]) rfl HFIN.out
end Go.Proofs.YtmepaeahchiglaaGreatDoor
namespace Go.Proofs.YtmepaeahchiglaaGreatDoor
open Go.RowKit Go.Lib

theorem rout_some {w : World} {g : Nat} {s : Ot} {bs r : List Nat} (h : Rd w g bs) (hr : outR bs = some (s, r)) :
    Calls Tryz.prog 137 #[wptr g] w fun e w' => e = .returned (outV s) ∧ Rd w' g r ∧ Chg [g] w w' ∧ is32 s.clear ∧ ok32 s.set ∧ is32 s.take := by
  have := rout_any w g bs h
  rw [hr] at this
  exact this.mono fun e w' ⟨h1, v, h2, h3, h4⟩ => ⟨by rw [h2, h3.1], h4, h1, h3.2⟩
theorem rout_none {w : World} {g : Nat} {bs : List Nat} (h : Rd w g bs) (hr : outR bs = none) :
    Calls Tryz.prog 137 #[wptr g] w fun e w' => e = .panicked MAL ∧ Chg [g] w w' := by
  have := rout_any w g bs h
  rw [hr] at this
  exact this.mono fun e w' ⟨h1, h2⟩ => ⟨h2, h1⟩
/-- A row of results in new memory. -/
def outsW (B : Nat) (xs : List Ot) (w : World) (v : Value) : Prop := w.ownsRow B 90 6 v xs.length (xs.flatMap outC) ∧ ∀ x ∈ xs, is32 x.clear ∧ ok32 x.set ∧ is32 x.take
set_option maxRecDepth 20000 in
set_option maxHeartbeats 1000000 in
theorem rsomeO_any (w : World) (g : Nat) (bs : List Nat) (h : Rd w g bs) :
    Calls Tryz.prog 136 #[wptr g, .func (.func 137) #[wptr g] #[]] w (RdPost g (outsW w.heap.size) w (someR outR bs)) := by
  obtain ⟨i0, hi, hz0, hz1, hz2⟩ := info_parts (show (Tryz.prog.info? 90).map (fun i => (i.zero, i.size, i.bytes)) = some (some (.agg #[.int .i64 0, .int .u32 0, .int .u32 0, .int .u32 0, .int .u32 0, .int .i64 0]), 6, 32) by kernel_rfl)
  have hgl := h.lt
  unfold someR
  cases hr : countR bs with
  | none =>
    have hc := rcount_none h hr
    rw [thenR_none hr]
    clear h hr
    go_enter Tryz.func136, Tryz.ntmps136
    go_wp2_with fail
    refine hc.mono ?_
    rintro e w1 ⟨rfl, h1⟩
    exact ⟨rfl, h1, rfl⟩
  | some q =>
    obtain ⟨n, r⟩ := q
    have hc := rcount_some h hr
    have hn := countR_le hr
    rw [thenR_some hr]
    obtain ⟨o, ho⟩ : ∃ o, manyR outR n r = o := ⟨_, rfl⟩
    rw [ho]
    have HO := Lib.hid ho
    clear h hr ho
    go_enter Tryz.func136, Tryz.ntmps136
    go_wp2_with fail
    refine hc.mono ?_
    rintro e w1 ⟨rfl, h1, h2⟩
    have hn30 : n ≤ 1073741824 := Nat.le_trans hn h1.bytes
    have H1 := Lib.hid h1; have H2 := Lib.hid h2
    clear h1 h2 hc
    go_wp2
    go_loopw [5, 8] (fun v i wr => ∃ k : Nat, ∃ xs : List Ot, ∃ b : List Nat, k ≤ n ∧ i = .int .i64 k ∧ xs.length = k ∧ wr.ownsRow w.heap.size 90 6 v k (xs.flatMap outC) ∧ (∀ x ∈ xs, is32 x.clear ∧ ok32 x.set ∧ is32 x.take) ∧ preO xs (manyR outR (n - k) b) = o ∧ Rd wr g b ∧ Chg [g] w wr) (fun _ i _ => n - (Lib.intOf i).toNat)
    case atStart => exact ⟨0, [], r, by omega, rfl, rfl, World.ownsRow_nil _ _ _ _, (fun x hx => by cases hx), by rw [preO_nil]; exact HO.out, H1.out, H2.out⟩
    case round =>
      obtain ⟨k, xs, b, hk, rfl, hxl, hown, hoks, hpre, hr, hch⟩ := hrel
      have HOKS := Lib.hid hoks
      clear hoks
      have HXL := Lib.hid hxl; have HOWN := Lib.hid hown; have HR := Lib.hid hr; have HCH := Lib.hid hch
      clear hxl hown hr hch
      by_cases hlt : k < n
      · have hkI : (k : Int) < n := by omega
        rw [show n - k = (n - (k + 1)) + 1 by omega] at hpre
        cases hs : outR b with
        | none =>
          rw [preO_none _ hs] at hpre
          subst hpre
          have hc2 := rout_none HR.out hs
          clear hs
          go_wp2_with fail
          refine hc2.mono ?_
          rintro e w2 ⟨rfl, h3⟩
          exact ⟨rfl, HCH.out.trans h3, rfl⟩
        | some q =>
          obtain ⟨s, b'⟩ := q
          rw [preO_some _ hs] at hpre
          have hc2 := rout_some HR.out hs
          have HP := Lib.hid hpre
          clear hs hpre
          go_wp2_with fail
          refine hc2.mono ?_
          rintro e w2 ⟨rfl, h3, h4, h5⟩
          have HOK5 := Lib.hid h5
          clear h5
          have hown2 := own_chg HOWN.out h4 (fun j hj hm => by
            have := HOWN.out.lt j hj
            simp at hm; omega)
          have hrn := reads_newk w2 90 (outC s) 6 1 rfl
          have H3 := Lib.hid h3; have H4 := Lib.hid h4; have HOWN2 := Lib.hid hown2; have HRN := Lib.hid hrn
          have hsz := HCH.out.size
          have hsz2 := h4.size
          clear h3 h4 hown2 hrn hc2
          go_wp2_with (at_builtin; refine wpList_append_any _ rfl _ _ 60 rfl w.heap.size 90 i0 (.agg #[.int .i64 0, .int .u32 0, .int .u32 0, .int .u32 0, .int .u32 0, .int .i64 0]) 6 32 Tryz.underlying60 hi hz0 hz1 hz2 rfl (by decide) _ _ _ rfl (HOWN2.out.alloc _) _ _ _ _ (outC s) rfl HRN.out (by simp [Value.oneCell']) (by unfold maxLen; omega) (by omega) (by simp; omega) ?_; intro v' w3 hown' hgrow hx'; clear hx')
          have hc3 : Chg [g] w w3 := ((HCH.out.trans H4.out).alloc _).grown hgrow (fun j hj => (HOWN2.out.lt j hj).1)
          have hr3 : Rd w3 g b' := (H3.out.alloc _).grown hgrow (fun j hj => by have := (HOWN2.out.lt j hj).1; omega)
          clear hgrow
          go_roundw
          case rel => exact ⟨k + 1, xs ++ [s], b', by omega, by go_num, by rw [List.length_append, HXL.out]; rfl, by rw [List.flatMap_append]; simpa using hown', (fun x hx => by rcases List.mem_append.1 hx with hx | hx; exact HOKS.out x hx; rw [List.mem_singleton.1 hx]; exact HOK5.out), HP.out, hr3, hc3⟩
          case measure => simp [Lib.intOf]; omega
      · obtain rfl : k = n := by omega
        go_wp2
        go_ret
        rw [Nat.sub_self] at hpre
        have e : o = some (xs, b) := by rw [← hpre]; simp [preO, manyR]
        subst e
        refine ⟨HCH.out, _, rfl, ⟨?_, HOKS.out⟩, HR.out⟩
        rw [HXL.out]; exact HOWN.out
/-- The cells of a law whose parts lie in blocks of S. -/
def LawF (w : World) (S : Nat → Prop) (l : Lw) (cs : List Value) : Prop := ∃ q1 q2 A3 c3 A4 c4, cs = .string l.name :: (q1 ++ (q2 ++ [.slice A3 l.ifs.length c3, .slice A4 l.outs.length c4, .int .i64 l.mode])) ∧ PatF w S l.left q1 ∧ PatF w S l.right q2 ∧
  RowF w S 2 A3 l.ifs.length (l.ifs.flatMap sndC) ∧ RowF w S 6 A4 l.outs.length (l.outs.flatMap outC) ∧ (∀ s ∈ l.ifs, ok32 s) ∧ (∀ x ∈ l.outs, is32 x.clear ∧ ok32 x.set ∧ is32 x.take) ∧ l.ifs.length ≤ maxLen ∧ l.outs.length ≤ maxLen
theorem LawF.keep {w w' : World} {S S' : Nat → Prop} {l : Lw} {cs : List Value} (h : LawF w S l cs) (hs : ∀ b, S b → S' b) (hk : ∀ q : Addr, S q.block → w'.cell? q = w.cell? q) : LawF w' S' l cs := by
  obtain ⟨q1, q2, A3, c3, A4, c4, h1, h2, h3, h4, h5, h6⟩ := h
  exact ⟨q1, q2, A3, c3, A4, c4, h1, h2.keep hs hk _ _, h3.keep hs hk _ _, h4.keep hs hk, h5.keep hs hk, h6⟩
theorem LawF.chg {T : List Nat} {S S' : Nat → Prop} {w w' : World} {l : Lw} {cs : List Value} (h : LawF w S l cs) (hc : Chg T w w') (ht : ∀ b, S b → b < w.heap.size ∧ b ∉ T) (hs : ∀ b, S b → S' b) : LawF w' S' l cs :=
  h.keep hs (fun q hq => by
    unfold World.cell?
    rw [hc.block q.block (ht _ hq).1 (ht _ hq).2])
theorem LawF.toC {w : World} {S : Nat → Prop} {B : Nat} {l : Lw} {cs : List Value} (h : LawF w S l cs) (hs : ∀ b, S b → b < B) : LawC w B l cs := by
  obtain ⟨q1, q2, A3, c3, A4, c4, h1, h2, h3, h4, h5, h6⟩ := h
  exact ⟨q1, q2, A3, c3, A4, c4, h1, h2.toC hs _ _, h3.toC hs _ _, h4.reads hs, h5.reads hs, h6⟩
/-- What reading a law ends in. -/
def LawPost (g : Nat) (w : World) (o : Option (Lw × List Nat)) (e : Ending) (w' : World) : Prop :=
  Chg [g] w w' ∧ match o with
    | some (l, r) => ∃ cs, e = .returned (.agg cs.toArray) ∧ LawF w' (fun b => w.heap.size ≤ b ∧ b < w'.heap.size) l cs ∧ Rd w' g r ∧ l.name.size ≤ 1073741824
    | none => e = .panicked MAL
theorem Blk.free18 {w : World} {g : Nat} {t : TypeId} {a0 a1 a2 a3 a4 a5 a6 a7 a8 a9 a10 a11 a12 a13 a14 a15 a16 a17 : Value} (h : Blk w g t #[a0, a1, a2, a3, a4, a5, a6, a7, a8, a9, a10, a11, a12, a13, a14, a15, a16, a17]) : w.frozen? ⟨g, 0, none⟩ = false ∧ w.frozen? ⟨g, 1, none⟩ = false ∧ w.frozen? ⟨g, 2, none⟩ = false ∧ w.frozen? ⟨g, 3, none⟩ = false ∧ w.frozen? ⟨g, 4, none⟩ = false ∧ w.frozen? ⟨g, 5, none⟩ = false ∧ w.frozen? ⟨g, 6, none⟩ = false ∧ w.frozen? ⟨g, 7, none⟩ = false ∧ w.frozen? ⟨g, 8, none⟩ = false ∧ w.frozen? ⟨g, 9, none⟩ = false ∧ w.frozen? ⟨g, 10, none⟩ = false ∧ w.frozen? ⟨g, 11, none⟩ = false ∧ w.frozen? ⟨g, 12, none⟩ = false ∧ w.frozen? ⟨g, 13, none⟩ = false ∧ w.frozen? ⟨g, 14, none⟩ = false ∧ w.frozen? ⟨g, 15, none⟩ = false ∧ w.frozen? ⟨g, 16, none⟩ = false ∧ w.frozen? ⟨g, 17, none⟩ = false :=
  ⟨h.frozen 0, h.frozen 1, h.frozen 2, h.frozen 3, h.frozen 4, h.frozen 5, h.frozen 6, h.frozen 7, h.frozen 8, h.frozen 9, h.frozen 10, h.frozen 11, h.frozen 12, h.frozen 13, h.frozen 14, h.frozen 15, h.frozen 16, h.frozen 17⟩
theorem LawF.all {w : World} {S : Nat → Prop} {l : Lw} {cs : List Value} (h : LawF w S l cs) : cs.length = 18 ∧ ∀ u ∈ cs, u.oneCell' = true := by
  obtain ⟨q1, q2, A3, c3, A4, c4, rfl, h1, h2, _⟩ := h
  obtain ⟨l1, o1⟩ := h1.one
  obtain ⟨l2, o2⟩ := h2.one
  refine ⟨by simp [l1, l2], fun u hu => ?_⟩
  simp only [List.mem_cons, List.mem_append, List.not_mem_nil, or_false] at hu
  rcases hu with rfl | hu | hu | rfl | rfl | rfl
  · rfl
  · exact o1 u hu
  · exact o2 u hu
  · rfl
  · rfl
  · rfl
theorem Blk.setRow {w : World} {g : Nat} {t : TypeId} {old : Array Value} (h : Blk w g t old) (cs : Array Value) : Blk (w.setRow g cs) g t cs := setRow_heap w g old cs t (0, 0) h
theorem Chg.setRow (w : World) (g : Nat) (cs : Array Value) : Chg [g] w (w.setRow g cs) :=
  ⟨rfl, rfl, rfl, by simp, fun k _ hk => setRow_other w g k cs (by simpa using hk)⟩
/-- A law's store: the whole row. -/
theorem law_store {ops : Array Oper} {rest : List Oper} {o : Oper} {a : Act} {w : World} {Q : Exit → Act → World → Prop} (hgd : o.guard = none) (x y : Operand) (ho : o.op = .store 62 x y)
    (g : Nat) (hx : a.eval x = .pointer (some ⟨g, 0, none⟩)) (cs old : List Value) (hy : a.eval y = .agg cs.toArray) (hlen : cs.length = 18) (h1 : ∀ u ∈ cs, u.oneCell' = true) (hg : Blk w g 62 old.toArray) (hold : old.length = 18)
    (h : wpList Tryz.prog ops Q rest (a.put o.dst undef) (w.setRow g cs.toArray)) : wpList Tryz.prog ops Q (o :: rest) a w :=
  wpList_store_row hgd _ x y ho g cs.toArray hx hy _ old.toArray hg (by rw [law_info, List.size_toArray, hlen]) (by rw [List.size_toArray, List.size_toArray, hlen, hold]) (Array.all_eq_true_iff_forall_mem.2 (fun v hv => h1 v (by simpa using hv))) h
theorem law_results {fn : Func} {p : Tmp} (h : fn.results = #[.cell p 62]) (tmps : Array Value) (w : World) (g : Nat) (cs : List Value) (hp : tmps.getD p undef = .pointer (some ⟨g, 0, none⟩)) (hg : Blk w g 62 cs.toArray) (hlen : cs.length = 18) :
    (results fn tmps).run Tryz.prog w = .ok (.agg cs.toArray) w := by
  obtain ⟨fs, hfs⟩ := law_under
  exact results_cell_row h tmps w g _ cs.toArray (0, 0) _ hp hg hfs rfl (by rw [law_info, List.size_toArray, hlen])
theorem law_run {w : World} {g : Nat} {cs : List Value} (hg : Blk w g 62 cs.toArray) (hlen : cs.length = 18) : (loadVar 62 ⟨g, 0, none⟩).run Tryz.prog w = .ok (.agg cs.toArray) w := by
  obtain ⟨fs, hfs⟩ := law_under
  exact run_loadVar_row w g _ _ cs.toArray (0, 0) _ hg hfs rfl (by rw [law_info, List.size_toArray, hlen])
end Go.Proofs.YtmepaeahchiglaaGreatDoor
