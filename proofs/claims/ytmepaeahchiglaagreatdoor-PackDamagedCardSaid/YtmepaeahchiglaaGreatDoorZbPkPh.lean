/-
  layer 43: the program's pattern, read. Conditions: bytes that can be read. (Printed by rdpat2.py.)
-/
import Derived.Test.YtmepaeahchiglaaGreatDoorZbat
namespace Go.Proofs.YtmepaeahchiglaaGreatDoor
open Go.RowKit Go.Lib

/-- The memory while a pattern is read. -/
structure PSt (w W : World) (g gl left : Nat) (r : List Nat) : Prop where
  ch : Chg [g, gl] w W
  rd : Rd W g r
  lf : Blk W gl 3 #[.int .i64 left]
  b2 : Blk W w.heap.size 104 #[wptr g]
  b3 : Blk W (w.heap.size + 1) 243 #[wptr gl]
  rs : Blk W (w.heap.size + 1 + 1) 58 #[.int .i64 0, .int .u32 0, .int .u32 0, .bool false, .int .i64 0, .int .i64 0, .slice none 0 0]
  gg : g < gl
  gw : gl < w.heap.size
section
variable {w W W' : World} {g gl left left' : Nat} {r r' : List Nat}
theorem PSt.chg (h : PSt w W g gl left r) (hc : Chg [g, gl] W W') (hr : Rd W' g r') (hl : Blk W' gl 3 #[.int .i64 left']) : PSt w W' g gl left' r' := by
  have h1 := h.gg
  have h2 := h.gw
  exact ⟨h.ch.trans hc, hr, hl, h.b2.chg hc (by simp; omega), h.b3.chg hc (by simp; omega), h.rs.chg hc (by simp; omega), h1, h2⟩
theorem PSt.chg1 (h : PSt w W g gl left r) (hc : Chg [g] W W') (hr : Rd W' g r') : PSt w W' g gl left r' :=
  h.chg (hc.mono (by simp)) hr (h.lf.chg hc (by have := h.gg; simp; omega))
theorem PSt.alloc (h : PSt w W g gl left r) (o : Obj) : PSt w (W.alloc o) g gl left r :=
  h.chg ((Chg.refl _ _).alloc o) (h.rd.alloc o) (h.lf.alloc o)
theorem PSt.far (h : PSt w W g gl left r) {b : Nat} (hb : w.heap.size + 3 ≤ b) (i : Nat) (u : Value) : PSt w (W.setCell ⟨b, i, none⟩ u) g gl left r := by
  have h1 := h.gg
  have h2 := h.gw
  have hc : Chg [b] W (W.setCell ⟨b, i, none⟩ u) := (Chg.refl _ _).setCell (.inl (by simp)) u
  exact ⟨h.ch.new hc (fun j hj => .inr (by simp at hj; omega)), h.rd.chg hc (by simp; omega), h.lf.chg hc (by simp; omega), h.b2.chg hc (by simp; omega), h.b3.chg hc (by simp; omega), h.rs.chg hc (by simp; omega), h1, h2⟩
theorem PSt.c2 (h : PSt w W g gl left r) : W.cell? ⟨w.heap.size, 0, none⟩ = some (wptr g) := by simpa using h.b2.cell 0
theorem PSt.c3 (h : PSt w W g gl left r) : W.cell? ⟨w.heap.size + 1, 0, none⟩ = some (wptr gl) := by simpa using h.b3.cell 0
/-- The end. -/
theorem PSt.fin (h : PSt w W g gl left r) {p : Pt} {k : Int} {s : Snd} {neg : Bool} {lo hi : Int} {A : Option Addr} {n c : Nat} (hp : PatF W (fun b => w.heap.size + 3 ≤ b ∧ b < W.heap.size) p (patL k s neg lo hi (.slice A n c))) :
    PatPost g gl w (some ((p, left), r)) (.returned (.agg (patL k s neg lo hi (.slice A n c)).toArray)) (st7 W (w.heap.size + 1 + 1) (.int .i64 k) (.int .u32 s.1) (.int .u32 s.2) (.bool neg) (.int .i64 lo) (.int .i64 hi) (.slice A n c)) := by
  have h1 := h.gg
  have h2 := h.gw
  exact pat_result h.ch (hp.keep (fun b hb => ⟨by omega, hb.2, by omega⟩) (fun _ _ => rfl) _ _) h.rd h.lf (by omega) (by omega) (by omega)
end
theorem PSt.start {w : World} {g gl left : Nat} {bs : List Nat} (h : Rd w g bs) (hl : Blk w gl 3 #[.int .i64 left]) (hg : g < gl) : PSt w (((w.alloc (.cells #[wptr g] 104)).alloc (.cells #[wptr gl] 243)).alloc (.cells #[.int .i64 0, .int .u32 0, .int .u32 0, .bool false, .int .i64 0, .int .i64 0, .slice none 0 0] 58)) g gl left bs := by
  have e1 : (w.alloc (.cells #[wptr g] 104)).heap.size = w.heap.size + 1 := World.size_alloc _ _
  have e2 : ((w.alloc (.cells #[wptr g] 104)).alloc (.cells #[wptr gl] 243)).heap.size = w.heap.size + 1 + 1 := by rw [World.size_alloc, e1]
  have x1 := Blk.new (w.alloc (.cells #[wptr g] 104)) 243 #[wptr gl]
  have x2 := Blk.new ((w.alloc (.cells #[wptr g] 104)).alloc (.cells #[wptr gl] 243)) 58 #[.int .i64 0, .int .u32 0, .int .u32 0, .bool false, .int .i64 0, .int .i64 0, .slice none 0 0]
  rw [e1] at x1
  rw [e2] at x2
  exact ⟨(((Chg.refl _ w).alloc _).alloc _).alloc _, ((h.alloc _).alloc _).alloc _, ((hl.alloc _).alloc _).alloc _, ((Blk.new w _ _).alloc _).alloc _, x1.alloc _, x2, hg, hl.lt⟩
theorem PSt.down {w W : World} {g gl left : Nat} {r : List Nat} (h : PSt w W g gl (left + 1) r) : PSt w (W.setCell ⟨gl, 0, none⟩ (.int .i64 left)) g gl left r := by
  have hc : Chg [gl] W (W.setCell ⟨gl, 0, none⟩ (.int .i64 left)) := (Chg.refl _ _).setCell (.inl (by simp)) _
  exact h.chg (hc.mono (by simp)) (h.rd.chg hc (by have := h.gg; simp; omega)) (by simpa using h.lf.set_ 0 (.int .i64 left))
theorem rint_some {w : World} {g n : Nat} {bs r : List Nat} (h : Rd w g bs) (hr : readN bs = some (n, r)) :
    Calls Tryz.prog 138 #[wptr g] w fun e w' => e = .returned (.int .i64 n) ∧ Rd w' g r ∧ Chg [g] w w' := by
  have := rint_any w g bs h
  rw [hr] at this
  exact this.mono fun e w' ⟨h1, v, h2, h3, h4⟩ => ⟨by rw [h2, h3], h4, h1⟩
theorem rint_none {w : World} {g : Nat} {bs : List Nat} (h : Rd w g bs) (hr : readN bs = none) :
    Calls Tryz.prog 138 #[wptr g] w fun e w' => e = .panicked MAL ∧ Chg [g] w w' := by
  have := rint_any w g bs h
  rw [hr] at this
  exact this.mono fun e w' ⟨h1, h2⟩ => ⟨h2, h1⟩
theorem rflag_some {w : World} {g : Nat} {n : Bool} {bs r : List Nat} (h : Rd w g bs) (hr : flagR bs = some (n, r)) :
    Calls Tryz.prog 165 #[wptr g] w fun e w' => e = .returned (.bool n) ∧ Rd w' g r ∧ Chg [g] w w' := by
  have := rflag_any w g bs h
  rw [hr] at this
  exact this.mono fun e w' ⟨h1, v, h2, h3, h4⟩ => ⟨by rw [h2, h3], h4, h1⟩
theorem rflag_none {w : World} {g : Nat} {bs : List Nat} (h : Rd w g bs) (hr : flagR bs = none) :
    Calls Tryz.prog 165 #[wptr g] w fun e w' => e = .panicked MAL ∧ Chg [g] w w' := by
  have := rflag_any w g bs h
  rw [hr] at this
  exact this.mono fun e w' ⟨h1, h2⟩ => ⟨h2, h1⟩
theorem thenR_assoc {α β γ : Type} (g : Rdr α) (h : α → Rdr β) (K : β → Rdr γ) (b : List Nat) : thenR g (fun n => thenR (h n) K) b = thenR (thenR g h) K b := by
  unfold thenR
  cases g b with
  | none => rfl
  | some q => rfl
theorem manyS_one_none {get : Nat → Rdr (Pt × Nat)} {left : Nat} {b : List Nat} {β : Type} {K : List Pt × Nat → Rdr β} (h : get left b = none) : thenR (manyS get 1 left) K b = none :=
  thenR_none (by rw [manyS_one, thenR_none h])
theorem manyS_one_some {get : Nat → Rdr (Pt × Nat)} {left left' : Nat} {b r : List Nat} {p : Pt} {β : Type} {K : List Pt × Nat → Rdr β} (h : get left b = some ((p, left'), r)) : thenR (manyS get 1 left) K b = K ([p], left') r :=
  thenR_some (by rw [manyS_one, thenR_some h])
theorem sndR_ok {bs r : List Nat} {s : Snd} (h : sndR bs = some (s, r)) (hb : ∀ b ∈ bs, b < 256) : ok32 s := (canon_snd bs s r hb h).2
set_option maxRecDepth 20000 in
set_option maxHeartbeats 4000000 in
theorem rpat_zero (w : World) (g gl : Nat) (bs : List Nat) (h : Rd w g bs) (hl : Blk w gl 3 #[.int .i64 0]) (hg : g < gl) :
    Calls Tryz.prog 182 #[wptr g, wptr gl] w (PatPost g gl w none) := by
  have hst := PSt.start (left := 0) h hl hg
  have hcl := hst.lf.cell 0
  have hgl := hl.lt
  simp only [List.getElem?_toArray, List.getElem?_cons_zero] at hcl
  have HST := Lib.hid hst
  clear hst h hl
  go_enter Tryz.func182, Tryz.ntmps182
  go_wp2
  exact ⟨rfl, HST.out.ch, rfl⟩
set_option maxRecDepth 20000 in
set_option maxHeartbeats 8000000 in
theorem rpat_node (f : Nat) (hf : RPat f) (left : Nat) (w : World) (g gl : Nat) (bs : List Nat) (hlt : left < f) (h100 : left ≤ 100) (h : Rd w g bs) (hl : Blk w gl 3 #[.int .i64 ((left + 1 : Nat) : Int)]) (hg : g < gl) :
    Calls Tryz.prog 182 #[wptr g, wptr gl] w (PatPost g gl w (nodeR (patR f) left bs)) := by
  have hst := PSt.start h hl hg
  have hcl := hst.lf.cell 0
  have hfl := hst.lf.frozen 0
  have hgl := hl.lt
  simp only [List.getElem?_toArray, List.getElem?_cons_zero, Int.natCast_add, Int.cast_ofNat_Int] at hcl
  have hs1 := hst.down
  obtain ⟨W1, hW1⟩ : ∃ W, (((w.alloc (.cells #[wptr g] 104)).alloc (.cells #[wptr gl] 243)).alloc (.cells #[.int .i64 0, .int .u32 0, .int .u32 0, .bool false, .int .i64 0, .int .i64 0, .slice none 0 0] 58)).setCell ⟨gl, 0, none⟩ (.int .i64 left) = W := ⟨_, rfl⟩
  rw [hW1] at hs1
  have HW1 := Lib.hid hW1; have HS1 := Lib.hid hs1; have HF := Lib.hid hf
  clear hW1 hst hs1 h hl hf
  obtain ⟨o, ho⟩ : ∃ o, nodeR (patR f) left bs = o := ⟨_, rfl⟩
  rw [ho]
  have HO := Lib.hid ho
  clear ho
  go_enter Tryz.func182, Tryz.ntmps182
  go_wp2_with fail
  rw [HW1.out]
  clear HW1 hfl hcl
  cases hr : readN bs with
  | none =>
    have ho : o = none := by rw [← HO.out]; exact thenR_none hr
    subst ho
    have hc := rint_none HS1.out.rd hr
    clear hr
    refine hc.mono ?_
    rintro e w2 ⟨rfl, h1⟩
    exact ⟨rfl, HS1.out.ch.trans (h1.mono (by simp)), rfl⟩
  | some q =>
    obtain ⟨k, r⟩ := q
    have hO := HO.out
    unfold nodeR at hO
    rw [thenR_some hr] at hO
    have hc := rint_some HS1.out.rd hr
    clear hr HO
    refine hc.mono ?_
    rintro e w2 ⟨rfl, h1, h2⟩
    have hs2 := HS1.out.chg1 h2 h1
    have hsz2 : w.heap.size + 3 ≤ w2.heap.size := by have := hs2.rs.lt; omega
    obtain ⟨kI, hkI⟩ : ∃ kI : Int, (k : Int) = kI := ⟨_, rfl⟩
    rw [hkI] at hO ⊢
    have hbx := Blk.new w2 58 #[.int .i64 kI, .int .u32 0, .int .u32 0, .bool false, .int .i64 0, .int .i64 0, .slice none 0 0]
    have hs3 := hs2.alloc (.cells #[.int .i64 kI, .int .u32 0, .int .u32 0, .bool false, .int .i64 0, .int .i64 0, .slice none 0 0] 58)
    have HC1 := Lib.hid hc
    clear h1 h2 hs2 hc HC1
    by_cases k1 : k = 1
    · obtain rfl : kI = 1 := by omega
      rw [if_pos k1] at hO
      have c2 := hs3.c2
      obtain ⟨W3, hW3⟩ : ∃ W, w2.alloc (.cells #[.int .i64 1, .int .u32 0, .int .u32 0, .bool false, .int .i64 0, .int .i64 0, .slice none 0 0] 58) = W := ⟨_, rfl⟩
      rw [hW3] at hs3 hbx
      have HW3 := Lib.hid hW3; have HS3 := Lib.hid hs3; have HX3 := Lib.hid hbx
      clear hW3 hs3 hbx
      go_wp2_with fail
      rw [HW3.out]
      clear HW3 c2
      cases hr2 : sndR r with
      | none =>
        rw [thenR_none hr2] at hO
        subst hO
        have hc := rsnd_none HS3.out.rd hr2
        refine hc.mono ?_
        rintro e w4 ⟨rfl, h1⟩
        exact ⟨rfl, HS3.out.ch.trans (h1.mono (by simp)), rfl⟩
      | some q =>
        obtain ⟨s, r2⟩ := q
        rw [thenR_some hr2] at hO
        have hok := sndR_ok hr2 HS3.out.rd.all
        have hc := rsnd_some HS3.out.rd hr2
        clear hr2
        refine hc.mono ?_
        rintro e w4 ⟨rfl, h1, h2⟩
        have hs4 := HS3.out.chg1 h2 h1
        have hx4 := HX3.out.chg h2 (by simp; omega)
        clear h1 h2 hc HS3 HX3
        have hs5 := (hs4.far hsz2 1 (.int .u32 s.1)).far hsz2 2 (.int .u32 s.2)
        have hx5 := (hx4.set_ 1 (.int .u32 s.1)).set_ 2 (.int .u32 s.2)
        simp only [List.setIfInBounds_toArray, List.set_cons_zero, List.set_cons_succ] at hx5
        have c2 := hs5.c2
        obtain ⟨x0, x1, x2, x3, x4, x5, x6⟩ := hx4.seven
        obtain ⟨y0, y1, y2, y3, y4, y5, y6⟩ := hx4.free7
        obtain ⟨W5, hW5⟩ : ∃ W, (w4.setCell ⟨w2.heap.size, 1, none⟩ (.int .u32 s.1)).setCell ⟨w2.heap.size, 2, none⟩ (.int .u32 s.2) = W := ⟨_, rfl⟩
        rw [hW5] at hs5 hx5
        have HW5 := Lib.hid hW5; have HS5 := Lib.hid hs5; have HX5 := Lib.hid hx5; have HOK := Lib.hid hok
        clear hW5 hs5 hx5 hs4 hx4 hok
        go_wp2_with fail
        rw [HW5.out]
        clear HW5 c2 x0 x1 x2 x3 x4 x5 x6 y0 y1 y2 y3 y4 y5 y6
        cases hr3 : flagR r2 with
        | none =>
          rw [thenR_none hr3] at hO
          subst hO
          have hc := rflag_none HS5.out.rd hr3
          refine hc.mono ?_
          rintro e w6 ⟨rfl, h1⟩
          exact ⟨rfl, HS5.out.ch.trans (h1.mono (by simp)), rfl⟩
        | some q =>
          obtain ⟨neg, r3⟩ := q
          rw [thenR_some hr3] at hO
          subst hO
          have hc := rflag_some HS5.out.rd hr3
          clear hr3
          refine hc.mono ?_
          rintro e w6 ⟨rfl, h1, h2⟩
          have hs6 := HS5.out.chg1 h2 h1
          have hx6 := HX5.out.chg h2 (by simp; omega)
          clear h1 h2 hc HS5 HX5
          obtain ⟨p0, p1, p2, p3, p4, p5, p6⟩ := hx6.seven
          obtain ⟨y0, y1, y2, y3, y4, y5, y6⟩ := hx6.free7
          have hx7 := hx6.set_ 3 (.bool neg)
          simp only [List.setIfInBounds_toArray, List.set_cons_zero, List.set_cons_succ] at hx7
          have hsF := hs6.far hsz2 3 (.bool neg)
          have hxF := hx7
          obtain ⟨x0, x1, x2, x3, x4, x5, x6⟩ := hxF.seven
          obtain ⟨z0, z1, z2, z3, z4, z5, z6⟩ := hsF.rs.seven
          obtain ⟨v0, v1, v2, v3, v4, v5, v6⟩ := hsF.rs.free7
          have HXF := Lib.hid (hsF.rs.st7 (.int .i64 1) (.int .u32 s.1) (.int .u32 s.2) (.bool neg) (.int .i64 0) (.int .i64 0) (.slice none 0 0))
          have HFIN := Lib.hid (hsF.fin (patF_leaf _ _ 1 s neg 0 0 HOK.out))
          clear hsF hxF
          clear hs6 hx6 hx7
          go_wp2
          obtain ⟨z0, z1, z2, z3, z4, z5, z6⟩ := HXF.out.seven
          exact bodyPost_ret (by simp [results, Tryz.results182, go_sem, z0, z1, z2, z3, z4, z5, z6]) rfl HFIN.out
    by_cases k34 : k = 3 ∨ k = 4
    · rw [if_neg k1, if_pos k34, thenR_assoc] at hO
      have hsome := somePat_any f HF.out left _ g gl w.heap.size (w.heap.size + 1) r hlt h100 hs3.rd hs3.lf hg hs3.b2 hs3.b3
      have c2 := hs3.c2
      obtain ⟨W3, hW3⟩ : ∃ W, w2.alloc (.cells #[.int .i64 kI, .int .u32 0, .int .u32 0, .bool false, .int .i64 0, .int .i64 0, .slice none 0 0] 58) = W := ⟨_, rfl⟩
      have hW3s : W3.heap.size = w2.heap.size + 1 := by rw [← hW3, World.size_alloc]
      rw [hW3] at hs3 hbx hsome
      have HW3 := Lib.hid hW3; have HS3 := Lib.hid hs3; have HX3 := Lib.hid hbx
      clear hW3 hs3 hbx
      have t1 : (kI == 1) = false := by rw [beq_eq_false_iff_ne]; omega
      have t3 : (kI == 3) = true ∨ ((kI == 3) = false ∧ (kI == 4) = true) := by
        rcases k34 with h | h
        · exact .inl (by rw [beq_iff_eq]; omega)
        · exact .inr ⟨by rw [beq_eq_false_iff_ne]; omega, by rw [beq_iff_eq]; omega⟩
      obtain ⟨oo, hoo⟩ : ∃ oo, thenR countR (fun n => manyS (patR f) n left) r = oo := ⟨_, rfl⟩
      rw [hoo] at hsome
      have hO2 : o = oo.bind fun x => some ((.mk kI (0, 0) false 0 0 x.1.1, x.1.2), x.2) := by
        rw [← hO]
        cases hoo2 : oo with
        | none => rw [hoo2] at hoo; rw [thenR_none hoo]; rfl
        | some q => obtain ⟨x, t⟩ := q; rw [hoo2] at hoo; rw [thenR_some hoo]; rfl
      have HO2 := Lib.hid hO2; have HSOME := Lib.hid hsome
      clear hO hO2 hoo hsome k1 k34 hkI
      rcases t3 with t3 | ⟨t3, t4⟩
      · skip
        go_wp2_with fail
        rw [HW3.out]
        clear HW3 c2
        refine HSOME.out.mono ?_
        rintro e w4 ⟨hch, hm⟩
        cases oo with
        | none =>
          subst hm
          have hO := HO2.out
          subst hO
          exact ⟨rfl, HS3.out.ch.trans hch, rfl⟩
        | some q =>
          obtain ⟨⟨l, left'⟩, r'⟩ := q
          obtain ⟨v, xs, rfl, hown, hpats, hrd, hlf⟩ := hm
          have hO := HO2.out
          subst hO
          obtain ⟨A4, c4, rfl, hlc, hcm⟩ := ownsRow_form hown
          have hs4 := HS3.out.chg hch hrd hlf
          have hx4 := HX3.out.chg hch (by have := HS3.out.gw; have := HS3.out.gg; simp; omega)
          clear HS3 HX3 HO2 HSOME
          obtain ⟨p0, p1, p2, p3, p4, p5, p6⟩ := hx4.seven
          obtain ⟨y0, y1, y2, y3, y4, y5, y6⟩ := hx4.free7
          have hx5 := hx4.set_ 6 (.slice A4 l.length c4)
          simp only [List.setIfInBounds_toArray, List.set_cons_zero, List.set_cons_succ] at hx5
          have hsc : Chg [w2.heap.size] w4 (w4.setCell ⟨w2.heap.size, 6, none⟩ (.slice A4 l.length c4)) := (Chg.refl _ _).setCell (.inl (by simp)) _
          have hown5 := own_chg hown hsc (fun j hj hm => by have := hown.lt j hj; simp at hm; omega)
          have hpats5 := hpats.chg (T' := fun b => w.heap.size + 3 ≤ b ∧ b < (w4.setCell ⟨w2.heap.size, 6, none⟩ (.slice A4 l.length c4)).heap.size) hsc (fun b hb => ⟨hb.2.1, by simp; omega⟩) (fun b hb => ⟨by omega, Nat.lt_of_lt_of_le hb.2.1 hsc.size⟩)
          have hpf := patF_node (k := kI) (s := (0, 0)) (neg := false) (lo := 0) (hi := 0) (S := fun b => w.heap.size + 3 ≤ b ∧ b < (w4.setCell ⟨w2.heap.size, 6, none⟩ (.slice A4 l.length c4)).heap.size) (by unfold ok32 is32; decide) hown5 (fun b hb => by have := hown5.lt b hb; exact ⟨by omega, this.2⟩) hpats5
          have hsF := hs4.far hsz2 6 (.slice A4 l.length c4)
          have hxF := hx5
          obtain ⟨x0, x1, x2, x3, x4, x5, x6⟩ := hxF.seven
          obtain ⟨z0, z1, z2, z3, z4, z5, z6⟩ := hsF.rs.seven
          obtain ⟨v0, v1, v2, v3, v4, v5, v6⟩ := hsF.rs.free7
          have HXF := Lib.hid (hsF.rs.st7 (.int .i64 kI) (.int .u32 0) (.int .u32 0) (.bool false) (.int .i64 0) (.int .i64 0) (.slice A4 l.length c4))
          have HFIN := Lib.hid (hsF.fin hpf)
          clear hsF hxF
          clear hs4 hx4 hx5 hown hpats hown5 hpats5 hpf hsc
          go_wp2
          obtain ⟨z0, z1, z2, z3, z4, z5, z6⟩ := HXF.out.seven
          exact bodyPost_ret (by simp [results, Tryz.results182, go_sem, z0, z1, z2, z3, z4, z5, z6]) rfl HFIN.out
      · skip
        go_wp2_with fail
        rw [HW3.out]
        clear HW3 c2
        refine HSOME.out.mono ?_
        rintro e w4 ⟨hch, hm⟩
        cases oo with
        | none =>
          subst hm
          have hO := HO2.out
          subst hO
          exact ⟨rfl, HS3.out.ch.trans hch, rfl⟩
        | some q =>
          obtain ⟨⟨l, left'⟩, r'⟩ := q
          obtain ⟨v, xs, rfl, hown, hpats, hrd, hlf⟩ := hm
          have hO := HO2.out
          subst hO
          obtain ⟨A4, c4, rfl, hlc, hcm⟩ := ownsRow_form hown
          have hs4 := HS3.out.chg hch hrd hlf
          have hx4 := HX3.out.chg hch (by have := HS3.out.gw; have := HS3.out.gg; simp; omega)
          clear HS3 HX3 HO2 HSOME
          obtain ⟨p0, p1, p2, p3, p4, p5, p6⟩ := hx4.seven
          obtain ⟨y0, y1, y2, y3, y4, y5, y6⟩ := hx4.free7
          have hx5 := hx4.set_ 6 (.slice A4 l.length c4)
          simp only [List.setIfInBounds_toArray, List.set_cons_zero, List.set_cons_succ] at hx5
          have hsc : Chg [w2.heap.size] w4 (w4.setCell ⟨w2.heap.size, 6, none⟩ (.slice A4 l.length c4)) := (Chg.refl _ _).setCell (.inl (by simp)) _
          have hown5 := own_chg hown hsc (fun j hj hm => by have := hown.lt j hj; simp at hm; omega)
          have hpats5 := hpats.chg (T' := fun b => w.heap.size + 3 ≤ b ∧ b < (w4.setCell ⟨w2.heap.size, 6, none⟩ (.slice A4 l.length c4)).heap.size) hsc (fun b hb => ⟨hb.2.1, by simp; omega⟩) (fun b hb => ⟨by omega, Nat.lt_of_lt_of_le hb.2.1 hsc.size⟩)
          have hpf := patF_node (k := kI) (s := (0, 0)) (neg := false) (lo := 0) (hi := 0) (S := fun b => w.heap.size + 3 ≤ b ∧ b < (w4.setCell ⟨w2.heap.size, 6, none⟩ (.slice A4 l.length c4)).heap.size) (by unfold ok32 is32; decide) hown5 (fun b hb => by have := hown5.lt b hb; exact ⟨by omega, this.2⟩) hpats5
          have hsF := hs4.far hsz2 6 (.slice A4 l.length c4)
          have hxF := hx5
          obtain ⟨x0, x1, x2, x3, x4, x5, x6⟩ := hxF.seven
          obtain ⟨z0, z1, z2, z3, z4, z5, z6⟩ := hsF.rs.seven
          obtain ⟨v0, v1, v2, v3, v4, v5, v6⟩ := hsF.rs.free7
          have HXF := Lib.hid (hsF.rs.st7 (.int .i64 kI) (.int .u32 0) (.int .u32 0) (.bool false) (.int .i64 0) (.int .i64 0) (.slice A4 l.length c4))
          have HFIN := Lib.hid (hsF.fin hpf)
          clear hsF hxF
          clear hs4 hx4 hx5 hown hpats hown5 hpats5 hpf hsc
          go_wp2
          obtain ⟨z0, z1, z2, z3, z4, z5, z6⟩ := HXF.out.seven
          exact bodyPost_ret (by simp [results, Tryz.results182, go_sem, z0, z1, z2, z3, z4, z5, z6]) rfl HFIN.out
    by_cases k5 : k = 5
    · obtain rfl : kI = 5 := by omega
      rw [if_neg k1, if_neg k34, if_pos k5] at hO
      clear k1 k34
      have c2 := hs3.c2
      obtain ⟨W3, hW3⟩ : ∃ W, w2.alloc (.cells #[.int .i64 5, .int .u32 0, .int .u32 0, .bool false, .int .i64 0, .int .i64 0, .slice none 0 0] 58) = W := ⟨_, rfl⟩
      have hW3s : W3.heap.size = w2.heap.size + 1 := by rw [← hW3, World.size_alloc]
      rw [hW3] at hs3 hbx
      have HW3 := Lib.hid hW3; have HS3 := Lib.hid hs3; have HX3 := Lib.hid hbx
      clear hW3 hs3 hbx
      go_wp2_with fail
      rw [HW3.out]
      clear HW3 c2
      cases hr2 : readN r with
      | none =>
        rw [thenR_none hr2] at hO
        subst hO
        have hc := rint_none HS3.out.rd hr2
        refine hc.mono ?_
        rintro e w4 ⟨rfl, h1⟩
        exact ⟨rfl, HS3.out.ch.trans (h1.mono (by simp)), rfl⟩
      | some q =>
        obtain ⟨lo, r2⟩ := q
        rw [thenR_some hr2] at hO
        have hc := rint_some HS3.out.rd hr2
        clear hr2
        refine hc.mono ?_
        rintro e w4 ⟨rfl, h1, h2⟩
        have hs4 := HS3.out.chg1 h2 h1
        have hx4 := HX3.out.chg h2 (by have := HS3.out.gw; have := HS3.out.gg; simp; omega)
        have hsz4 := h2.size
        clear h1 h2 hc HS3 HX3
        have hs5 := hs4.far hsz2 4 (.int .i64 lo)
        have hx5 := hx4.set_ 4 (.int .i64 lo)
        simp only [List.setIfInBounds_toArray, List.set_cons_zero, List.set_cons_succ] at hx5
        have c2 := hs5.c2
        obtain ⟨x0, x1, x2, x3, x4, x5, x6⟩ := hx4.seven
        obtain ⟨y0, y1, y2, y3, y4, y5, y6⟩ := hx4.free7
        obtain ⟨W5, hW5⟩ : ∃ W, w4.setCell ⟨w2.heap.size, 4, none⟩ (.int .i64 lo) = W := ⟨_, rfl⟩
        have hW5s : W5.heap.size = w4.heap.size := by rw [← hW5]; simp [World.setCell]
        rw [hW5] at hs5 hx5
        have HW5 := Lib.hid hW5; have HS5 := Lib.hid hs5; have HX5 := Lib.hid hx5
        clear hW5 hs5 hx5 hs4 hx4
        go_wp2_with fail
        rw [HW5.out]
        clear HW5 c2 x0 x1 x2 x3 x4 x5 x6 y0 y1 y2 y3 y4 y5 y6
        cases hr3 : readN r2 with
        | none =>
          rw [thenR_none hr3] at hO
          subst hO
          have hc := rint_none HS5.out.rd hr3
          refine hc.mono ?_
          rintro e w6 ⟨rfl, h1⟩
          exact ⟨rfl, HS5.out.ch.trans (h1.mono (by simp)), rfl⟩
        | some q =>
          obtain ⟨hi, r3⟩ := q
          rw [thenR_some hr3] at hO
          have hc := rint_some HS5.out.rd hr3
          have hhi := readN_lt hr3 HS5.out.rd.all
          clear hr3
          refine hc.mono ?_
          rintro e w6 ⟨rfl, h1, h2⟩
          have hs6 := HS5.out.chg1 h2 h1
          have hx6 := HX5.out.chg h2 (by have := HS5.out.gw; have := HS5.out.gg; simp; omega)
          have hsz6 := h2.size
          clear h1 h2 hc HS5 HX5
          have hs7 := hs6.far hsz2 5 (.int .i64 ((hi : Int) - 1))
          have hx7 := hx6.set_ 5 (.int .i64 ((hi : Int) - 1))
          simp only [List.setIfInBounds_toArray, List.set_cons_zero, List.set_cons_succ] at hx7
          obtain ⟨x0, x1, x2, x3, x4, x5, x6⟩ := hx6.seven
          obtain ⟨y0, y1, y2, y3, y4, y5, y6⟩ := hx6.free7
          obtain ⟨W7, hW7⟩ : ∃ W, w6.setCell ⟨w2.heap.size, 5, none⟩ (.int .i64 ((hi : Int) - 1)) = W := ⟨_, rfl⟩
          have hW7s : W7.heap.size = w6.heap.size := by rw [← hW7]; simp [World.setCell]
          rw [hW7] at hs7 hx7
          have hpart := part_any f HF.out left W7 g gl w.heap.size (w.heap.size + 1) r3 hlt h100 hs7.rd hs7.lf hg hs7.b2 hs7.b3
          have HW7 := Lib.hid hW7; have HS7 := Lib.hid hs7; have HX7 := Lib.hid hx7; have HPART := Lib.hid hpart
          clear hW7 hs7 hx7 hs6 hx6 hpart
          go_wp2_with fail
          rw [HW7.out]
          clear HW7 x0 x1 x2 x3 x4 x5 x6 y0 y1 y2 y3 y4 y5 y6
          refine HPART.out.mono ?_
          rintro e w8 ⟨hch, hm⟩
          cases hr4 : patR f left r3 with
          | none =>
            rw [hr4] at hm
            rw [manyS_one_none hr4] at hO
            subst hO hm
            exact ⟨rfl, HS7.out.ch.trans hch, rfl⟩
          | some q =>
            obtain ⟨⟨p, left'⟩, r4⟩ := q
            rw [hr4] at hm
            rw [manyS_one_some hr4] at hO
            subst hO
            obtain ⟨cs, rfl, hpf, hrd, hlf⟩ := hm
            obtain ⟨pk, ps, pneg, plo, phi, pA, pn, pc, rfl⟩ := hpf.form
            have hs8 := HS7.out.chg hch hrd hlf
            have hx8 := HX7.out.chg hch (by have := HS7.out.gw; have := HS7.out.gg; simp; omega)
            have hsz8 := hch.size
            clear hch hrd hlf HS7 HX7 HPART
            have hs9 := hs8.alloc (.cells (patL pk ps pneg plo phi (.slice pA pn pc)).toArray 58)
            have hx9 := hx8.alloc (.cells (patL pk ps pneg plo phi (.slice pA pn pc)).toArray 58)
            obtain ⟨p0, p1, p2, p3, p4, p5, p6⟩ := hx9.seven
            obtain ⟨y0, y1, y2, y3, y4, y5, y6⟩ := hx9.free7
            have hx10 := hx9.set_ 6 (.slice (some ⟨w8.heap.size, 0, none⟩) 1 1)
            simp only [List.setIfInBounds_toArray, List.set_cons_zero, List.set_cons_succ] at hx10
            have hsc : Chg [w2.heap.size] (w8.alloc (.cells (patL pk ps pneg plo phi (.slice pA pn pc)).toArray 58)) ((w8.alloc (.cells (patL pk ps pneg plo phi (.slice pA pn pc)).toArray 58)).setCell ⟨w2.heap.size, 6, none⟩ (.slice (some ⟨w8.heap.size, 0, none⟩) 1 1)) := (Chg.refl _ _).setCell (.inl (by simp)) _
            have hown := World.ownsRow_lit (base := w8.heap.size) (e := 58) (size := 7) w8 (patL pk ps pneg plo phi (.slice pA pn pc)).toArray 1 (Nat.le_refl _) (by unfold maxLen; omega) rfl
            have hown5 := own_chg hown hsc (fun j hj hm => by have := hown.lt j hj; simp at hm; omega)
            have hp9 : PatsF (w8.alloc (.cells (patL pk ps pneg plo phi (.slice pA pn pc)).toArray 58)) (fun b => W7.heap.size ≤ b ∧ b < w8.heap.size) [p] (patL pk ps pneg plo phi (.slice pA pn pc)) :=
              patsF_cons.2 ⟨_, [], by simp, hpf.chg (S := []) ((Chg.refl _ _).alloc _) (fun b hb => ⟨hb.2, by simp⟩) (fun b hb => hb), patsF_nil.2 rfl⟩
            have hp10 := hp9.chg (T' := fun b => w.heap.size + 3 ≤ b ∧ b < ((w8.alloc (.cells (patL pk ps pneg plo phi (.slice pA pn pc)).toArray 58)).setCell ⟨w2.heap.size, 6, none⟩ (.slice (some ⟨w8.heap.size, 0, none⟩) 1 1)).heap.size) hsc (fun b hb => ⟨by simp; omega, by simp; omega⟩) (fun b hb => ⟨by omega, Nat.lt_of_lt_of_le (by simp; omega) hsc.size⟩)
            have hpn := patF_node (k := 5) (s := (0, 0)) (neg := false) (lo := (lo : Int)) (hi := (hi : Int) - 1) (l := [p]) (S := fun b => w.heap.size + 3 ≤ b ∧ b < ((w8.alloc (.cells (patL pk ps pneg plo phi (.slice pA pn pc)).toArray 58)).setCell ⟨w2.heap.size, 6, none⟩ (.slice (some ⟨w8.heap.size, 0, none⟩) 1 1)).heap.size) (by unfold ok32 is32; decide) hown5 (fun b hb => by have := hown5.lt b hb; exact ⟨by omega, this.2⟩) hp10
            have hsF := hs9.far hsz2 6 (.slice (some ⟨w8.heap.size, 0, none⟩) 1 1)
            have hxF := hx10
            obtain ⟨x0, x1, x2, x3, x4, x5, x6⟩ := hxF.seven
            obtain ⟨z0, z1, z2, z3, z4, z5, z6⟩ := hsF.rs.seven
            obtain ⟨v0, v1, v2, v3, v4, v5, v6⟩ := hsF.rs.free7
            have HXF := Lib.hid (hsF.rs.st7 (.int .i64 5) (.int .u32 0) (.int .u32 0) (.bool false) (.int .i64 lo) (.int .i64 ((hi : Int) - 1)) (.slice (some ⟨w8.heap.size, 0, none⟩) 1 1))
            have HFIN := Lib.hid (hsF.fin hpn)
            clear hsF hxF
            clear hs8 hx8 hs9 hx9 hx10 hown hown5 hp9 hp10 hpn hsc hpf
            go_wp2
            obtain ⟨z0, z1, z2, z3, z4, z5, z6⟩ := HXF.out.seven
            exact bodyPost_ret (by simp [results, Tryz.results182, go_sem, z0, z1, z2, z3, z4, z5, z6]) rfl HFIN.out
    · rw [if_neg k1, if_neg k34, if_neg k5] at hO
      subst hO
      have t1 : (kI == 1) = false := by rw [beq_eq_false_iff_ne]; omega
      have t3 : (kI == 3) = false := by rw [beq_eq_false_iff_ne]; omega
      have t4 : (kI == 4) = false := by rw [beq_eq_false_iff_ne]; omega
      have t5 : (kI == 5) = false := by rw [beq_eq_false_iff_ne]; omega
      clear k1 k34 k5
      have hsF := hs3
      have hxF := hbx
      obtain ⟨x0, x1, x2, x3, x4, x5, x6⟩ := hxF.seven
      obtain ⟨z0, z1, z2, z3, z4, z5, z6⟩ := hsF.rs.seven
      obtain ⟨v0, v1, v2, v3, v4, v5, v6⟩ := hsF.rs.free7
      have HXF := Lib.hid (hsF.rs.st7 (.int .i64 kI) (.int .u32 0) (.int .u32 0) (.bool false) (.int .i64 0) (.int .i64 0) (.slice none 0 0))
      have HFIN := Lib.hid (hsF.fin (patF_leaf _ _ kI (0, 0) false 0 0 (by unfold ok32 is32; decide)))
      clear hsF hxF
      clear hs3 hbx
      go_wp2
      obtain ⟨z0, z1, z2, z3, z4, z5, z6⟩ := HXF.out.seven
      exact bodyPost_ret (by simp [results, Tryz.results182, go_sem, z0, z1, z2, z3, z4, z5, z6]) rfl HFIN.out
theorem rpat_any : ∀ f, RPat f
  | 0 => fun _ _ _ _ _ h => absurd h (Nat.not_lt_zero _)
  | f + 1 => fun left w g gl bs h1 h2 h3 h4 h5 => by
    cases left with
    | zero => rw [patR_zero]; exact rpat_zero w g gl bs h3 h4 h5
    | succ left => rw [patR_succ]; exact rpat_node f (rpat_any f) left w g gl bs (by omega) (by omega) h3 h4 h5
end Go.Proofs.YtmepaeahchiglaaGreatDoor
