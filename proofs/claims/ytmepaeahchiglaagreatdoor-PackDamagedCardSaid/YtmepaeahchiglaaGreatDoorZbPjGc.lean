/-
  layer 43: the reader's elements: texts, numbers, named sounds, nodes, forms. Conditions: bytes that can be read.
-/
import Derived.Test.YtmepaeahchiglaaGreatDoorZbaw
namespace Go.Proofs.YtmepaeahchiglaaGreatDoor
open Go.RowKit Go.Lib

theorem text_el (w : World) (g : Nat) (bs : List Nat) (h : Rd w g bs) : Calls Tryz.prog 108 #[wptr g] w (ElPost g StrF oneM w (textR bs)) := by
  refine (rtext_any w g bs h).mono fun e w' ⟨h1, h2⟩ => ⟨h1, ?_⟩
  cases ho : textR bs with
  | none => rw [ho] at h2; exact h2
  | some q =>
    obtain ⟨s, r⟩ := q
    rw [ho] at h2
    obtain ⟨v, rfl, rfl, h3⟩ := h2
    exact ⟨_, rfl, rfl, h3⟩
theorem int_el (w : World) (g : Nat) (bs : List Nat) (h : Rd w g bs) : Calls Tryz.prog 138 #[wptr g] w (ElPost g IntF oneM w (intR bs)) := by
  refine (rint_any w g bs h).mono fun e w' ⟨h1, h2⟩ => ⟨h1, ?_⟩
  unfold intR
  cases ho : readN bs with
  | none => rw [ho] at h2; rw [thenR_none ho]; exact h2
  | some q =>
    obtain ⟨s, r⟩ := q
    rw [ho] at h2
    rw [thenR_some ho]
    obtain ⟨v, rfl, rfl, h3⟩ := h2
    exact ⟨_, rfl, rfl, h3⟩
theorem law_el (w : World) (g : Nat) (bs : List Nat) (h : Rd w g bs) : Calls Tryz.prog 63 #[wptr g] w (ElPost g LawF aggM w (lawR bs)) := by
  refine (rlaw_any w g bs h).mono fun e w' ⟨h1, h2⟩ => ⟨h1, ?_⟩
  cases ho : lawR bs with
  | none => rw [ho] at h2; exact h2
  | some q =>
    obtain ⟨s, r⟩ := q
    rw [ho] at h2
    obtain ⟨cs, rfl, h3, h4, _⟩ := h2
    exact ⟨cs, rfl, h3, h4⟩
/-- The memory while a closure reads: the result's block, the block of the reader's pointer. -/
structure CSt (w W : World) (g b2 : Nat) (r : List Nat) (t : TypeId) (zs : Array Value) : Prop where
  ch : Chg [g] w W
  rd : Rd W g r
  rs : Blk W w.heap.size t zs
  cb : Blk W b2 104 #[wptr g]
  gw : g < w.heap.size
  bw : b2 < w.heap.size
  ne : b2 ≠ g
section
variable {w W W' : World} {g b2 : Nat} {r r' : List Nat} {t : TypeId} {zs : Array Value}
theorem Rd.ne {b : Nat} (h : Rd w g r) (h2 : Blk w b 104 #[wptr g]) : b ≠ g := by
  obtain ⟨A, c, hb, _⟩ := h
  exact h2.ne_ hb (by decide)
theorem CSt.start (h : Rd w g r) (h2 : Blk w b2 104 #[wptr g]) (t : TypeId) (zs : Array Value) : CSt w (w.alloc (.cells zs t)) g b2 r t zs :=
  ⟨(Chg.refl _ w).alloc _, h.alloc _, Blk.new w _ _, h2.alloc _, h.lt, h2.lt, h.ne h2⟩
theorem CSt.chg (h : CSt w W g b2 r t zs) (hc : Chg [g] W W') (hr : Rd W' g r') : CSt w W' g b2 r' t zs := by
  have h1 := h.gw; have h2 := h.ne
  exact ⟨h.ch.trans hc, hr, h.rs.chg hc (by simp; omega), h.cb.chg hc (by simpa using h2), h1, h.bw, h2⟩
theorem CSt.alloc (h : CSt w W g b2 r t zs) (o : Obj) : CSt w (W.alloc o) g b2 r t zs :=
  ⟨h.ch.alloc o, h.rd.alloc o, h.rs.alloc o, h.cb.alloc o, h.gw, h.bw, h.ne⟩
theorem CSt.set_ (h : CSt w W g b2 r t zs) (i : Nat) (u : Value) : CSt w (W.setCell ⟨w.heap.size, i, none⟩ u) g b2 r t (zs.setIfInBounds i u) := by
  have h1 := h.gw; have h2 := h.bw
  have hc : Chg [w.heap.size] W (W.setCell ⟨w.heap.size, i, none⟩ u) := (Chg.refl _ _).setCell (.inl (by simp)) u
  exact ⟨h.ch.new hc (fun j hj => .inr (by simp at hj; omega)), h.rd.chg hc (by simp; omega), h.rs.set_ i u, h.cb.chg hc (by simp; omega), h1, h2, h.ne⟩
theorem CSt.ptr (h : CSt w W g b2 r t zs) : W.cell? ⟨b2, 0, none⟩ = some (wptr g) := by simpa using h.cb.cell 0
theorem CSt.two {a b : Value} (h : CSt w W g b2 r t #[a, b]) : (W.cell? ⟨w.heap.size, 0, none⟩ = some a ∧ W.cell? ⟨w.heap.size, 1, none⟩ = some b) ∧ W.frozen? ⟨w.heap.size, 0, none⟩ = false ∧ W.frozen? ⟨w.heap.size, 1, none⟩ = false :=
  ⟨⟨by simpa using h.rs.cell 0, by simpa using h.rs.cell 1⟩, h.rs.frozen 0, h.rs.frozen 1⟩
theorem CSt.three {a b c : Value} (h : CSt w W g b2 r t #[a, b, c]) : (W.cell? ⟨w.heap.size, 0, none⟩ = some a ∧ W.cell? ⟨w.heap.size, 1, none⟩ = some b ∧ W.cell? ⟨w.heap.size, 2, none⟩ = some c) ∧ W.frozen? ⟨w.heap.size, 0, none⟩ = false ∧ W.frozen? ⟨w.heap.size, 1, none⟩ = false ∧ W.frozen? ⟨w.heap.size, 2, none⟩ = false :=
  ⟨⟨by simpa using h.rs.cell 0, by simpa using h.rs.cell 1, by simpa using h.rs.cell 2⟩, h.rs.frozen 0, h.rs.frozen 1, h.rs.frozen 2⟩
end
set_option linter.unusedSimpArgs false in
set_option maxRecDepth 20000 in
set_option maxHeartbeats 2000000 in
theorem named_el (w : World) (g b2 : Nat) (bs : List Nat) (h : Rd w g bs) (h2 : Blk w b2 104 #[wptr g]) :
    Calls Tryz.prog 110 #[wptr b2] w (ElPost g NmdF aggM w (nmdR bs)) := by
  have hs := CSt.start h h2 74 #[.string ⟨#[]⟩, .int .u32 0, .int .u32 0]
  have hp := hs.ptr
  obtain ⟨o, ho⟩ : ∃ o, nmdR bs = o := ⟨_, rfl⟩
  rw [ho]
  unfold nmdR at ho
  have HS := Lib.hid hs
  clear hs h h2
  go_enter Tryz.func110, Tryz.ntmps110
  go_wp2_with fail
  cases hr0 : textR bs with
  | none =>
    rw [thenR_none hr0] at ho
    subst ho
    refine (rtext_none HS.out.rd hr0).mono ?_
    rintro e w1 ⟨rfl, h1⟩
    exact ⟨rfl, HS.out.ch.trans h1, rfl⟩
  | some q =>
    obtain ⟨s, r0⟩ := q
    rw [thenR_some hr0] at ho
    have hc := rtext_some HS.out.rd hr0
    clear hr0
    refine hc.mono ?_
    rintro e w1 ⟨rfl, h1, h2⟩
    have hs1 := HS.out.chg h2 h1
    have hp1 := hs1.ptr
    have HS1 := Lib.hid hs1
    clear h1 h2 hs1 hp HS hc
    go_wp2_with fail
    cases hr1 : sndR r0 with
    | none =>
      rw [thenR_none hr1] at ho
      subst ho
      refine (rsnd_none HS1.out.rd hr1).mono ?_
      rintro e w2 ⟨rfl, h1⟩
      exact ⟨rfl, HS1.out.ch.trans h1, rfl⟩
    | some q =>
      obtain ⟨x, r1⟩ := q
      rw [thenR_some hr1] at ho
      have hc := rsnd_some HS1.out.rd hr1
      clear hr1
      refine hc.mono ?_
      rintro e w2 ⟨rfl, h1, h2⟩
      have hs2 := HS1.out.chg h2 h1
      obtain ⟨⟨c0, c1, c2⟩, f0, f1, f2⟩ := hs2.three
      have hf := (((hs2.set_ 0 (.string s)).set_ 1 (.int .u32 x.1)).set_ 2 (.int .u32 x.2))
      simp only [List.setIfInBounds_toArray, List.set_cons_zero, List.set_cons_succ] at hf
      have HF := Lib.hid hf
      have HO := Lib.hid ho
      clear h1 h2 hs2 hp1 HS1 hc hf ho
      go_wp2
      obtain ⟨⟨d0, d1, d2⟩, -⟩ := HF.out.three
      have ho := HO.out
      subst ho
      exact bodyPost_ret (v := .agg #[.string s, .int .u32 x.1, .int .u32 x.2]) (by simp [results, Tryz.results110, go_sem, d0, d1, d2]) rfl ⟨HF.out.ch, _, rfl, rfl, HF.out.rd⟩
set_option linter.unusedSimpArgs false in
set_option maxRecDepth 20000 in
set_option maxHeartbeats 2000000 in
theorem node_el (w : World) (g b2 : Nat) (bs : List Nat) (h : Rd w g bs) (h2 : Blk w b2 104 #[wptr g]) :
    Calls Tryz.prog 162 #[wptr b2] w (ElPost g NdF aggM w (ndR bs)) := by
  have hs := CSt.start h h2 78 #[.int .i64 0, .string ⟨#[]⟩]
  have hp := hs.ptr
  obtain ⟨o, ho⟩ : ∃ o, ndR bs = o := ⟨_, rfl⟩
  rw [ho]
  unfold ndR at ho
  have HS := Lib.hid hs
  clear hs h h2
  go_enter Tryz.func162, Tryz.ntmps162
  go_wp2_with fail
  cases hr0 : readN bs with
  | none =>
    rw [thenR_none hr0] at ho
    subst ho
    refine (rint_none HS.out.rd hr0).mono ?_
    rintro e w1 ⟨rfl, h1⟩
    exact ⟨rfl, HS.out.ch.trans h1, rfl⟩
  | some q =>
    obtain ⟨k, r0⟩ := q
    rw [thenR_some hr0] at ho
    have hk32 : k < 4294967296 := readN_lt hr0 HS.out.rd.all
    have hc := rint_some HS.out.rd hr0
    clear hr0
    refine hc.mono ?_
    rintro e w1 ⟨rfl, h1, h2⟩
    have hs1 := HS.out.chg h2 h1
    have hp1 := hs1.ptr
    have HS1 := Lib.hid hs1
    clear h1 h2 hs1 hp HS hc
    go_wp2_with fail
    cases hr1 : textR r0 with
    | none =>
      rw [thenR_none hr1] at ho
      subst ho
      refine (rtext_none HS1.out.rd hr1).mono ?_
      rintro e w2 ⟨rfl, h1⟩
      exact ⟨rfl, HS1.out.ch.trans h1, rfl⟩
    | some q =>
      obtain ⟨s, r1⟩ := q
      rw [thenR_some hr1] at ho
      have hc := rtext_some HS1.out.rd hr1
      clear hr1
      refine hc.mono ?_
      rintro e w2 ⟨rfl, h1, h2⟩
      have hs2 := HS1.out.chg h2 h1
      obtain ⟨⟨c0, c1⟩, f0, f1⟩ := hs2.two
      have hf := ((hs2.set_ 0 (.int .i64 ((k : Int) - 1))).set_ 1 (.string s))
      simp only [List.setIfInBounds_toArray, List.set_cons_zero, List.set_cons_succ] at hf
      have HF := Lib.hid hf
      have HO := Lib.hid ho
      clear h1 h2 hs2 hp1 HS1 hc hf ho
      go_wp2
      obtain ⟨⟨d0, d1⟩, -⟩ := HF.out.two
      have ho := HO.out
      subst ho
      exact bodyPost_ret (v := .agg #[.int .i64 ((k : Int) - 1), .string s]) (by simp [results, Tryz.results162, go_sem, d0, d1]) rfl ⟨HF.out.ch, _, rfl, rfl, HF.out.rd⟩
set_option linter.unusedSimpArgs false in
set_option maxRecDepth 20000 in
set_option maxHeartbeats 2000000 in
theorem mark_el (w : World) (g b2 : Nat) (bs : List Nat) (h : Rd w g bs) (h2 : Blk w b2 104 #[wptr g]) :
    Calls Tryz.prog 112 #[wptr b2] w (ElPost g MkdF aggM w (mkdR bs)) := by
  have hs := CSt.start h h2 76 #[.string ⟨#[]⟩, .int .u32 0, .int .u32 0, .int .u32 0]
  have hp := hs.ptr
  obtain ⟨o, ho⟩ : ∃ o, mkdR bs = o := ⟨_, rfl⟩
  rw [ho]
  unfold mkdR at ho
  have HS := Lib.hid hs
  clear hs h h2
  go_enter Tryz.func112, Tryz.ntmps112
  go_wp2_with fail
  cases hr0 : textR bs with
  | none =>
    rw [thenR_none hr0] at ho
    subst ho
    refine (rtext_none HS.out.rd hr0).mono ?_
    rintro e w1 ⟨rfl, h1⟩
    exact ⟨rfl, HS.out.ch.trans h1, rfl⟩
  | some q =>
    obtain ⟨s, r0⟩ := q
    rw [thenR_some hr0] at ho
    have hc := rtext_some HS.out.rd hr0
    clear hr0
    refine hc.mono ?_
    rintro e w1 ⟨rfl, h1, h2⟩
    have hsz1 : w.heap.size < w1.heap.size := Nat.lt_of_lt_of_le (by simp) h2.size
    have hs2 := (HS.out.chg h2 h1).alloc (.cells #[.string s, .int .u32 0, .int .u32 0, .int .u32 0] 76)
    have hB2 := Blk.new w1 76 #[.string s, .int .u32 0, .int .u32 0, .int .u32 0]
    have hgw := HS.out.gw; have hbw := HS.out.bw; have hne := HS.out.ne
    have hp1 := hs2.ptr
    obtain ⟨W, hW⟩ : ∃ W, w1.alloc (.cells #[.string s, .int .u32 0, .int .u32 0, .int .u32 0] 76) = W := ⟨_, rfl⟩
    rw [hW] at hs2 hB2
    have HS1 := Lib.hid hs2; have HB := Lib.hid hB2; have HW := Lib.hid hW
    clear h1 h2 hs2 hp HS hc hB2 hW
    go_wp2_with fail
    rw [HW.out]
    clear hp1
    have hp1 := HS1.out.ptr
    clear HW
    cases hr1 : readN r0 with
    | none =>
      rw [thenR_none hr1] at ho
      subst ho
      refine (rnum_none HS1.out.rd hr1).mono ?_
      rintro e w2 ⟨rfl, h1⟩
      exact ⟨rfl, HS1.out.ch.trans h1, rfl⟩
    | some q =>
      obtain ⟨k, r1⟩ := q
      rw [thenR_some hr1] at ho
      have hk32 : k < 4294967296 := readN_lt hr1 HS1.out.rd.all
      have hc := rnum_some HS1.out.rd hr1
      clear hr1
      refine hc.mono ?_
      rintro e w2 ⟨rfl, h1, h2⟩
      have hs2 := HS1.out.chg h2 h1
      have hb2 := HB.out.chg h2 (by simp; omega)
      have k1 := hb2.cell 1; have m1 := hb2.frozen 1
      simp only [List.getElem?_toArray, List.getElem?_cons_zero, List.getElem?_cons_succ] at k1
      have hcc : Chg [w1.heap.size] w2 (w2.setCell ⟨w1.heap.size, 1, none⟩ (.int .u32 k)) := (Chg.refl _ _).setCell (.inl (by simp)) _
      have hb3 := hb2.set_ 1 (.int .u32 k)
      simp only [List.setIfInBounds_toArray, List.set_cons_zero, List.set_cons_succ] at hb3
      have hs3 : CSt w (w2.setCell ⟨w1.heap.size, 1, none⟩ (.int .u32 k)) g b2 r1 76 #[.string ⟨#[]⟩, .int .u32 0, .int .u32 0, .int .u32 0] :=
        ⟨hs2.ch.new hcc (fun i hi => .inr (by simp at hi; omega)), hs2.rd.chg hcc (by simp; omega), hs2.rs.chg hcc (by simp; omega), hs2.cb.chg hcc (by simp; omega), hgw, hbw, hne⟩
      obtain ⟨W2, hW⟩ : ∃ W, w2.setCell ⟨w1.heap.size, 1, none⟩ (.int .u32 k) = W := ⟨_, rfl⟩
      have hpx := hs3.ptr
      rw [hW] at hs3 hb3
      have hp2 := hs3.ptr
      have HS2 := Lib.hid hs3; have HB2 := Lib.hid hb3; have HW := Lib.hid hW
      clear h1 h2 hs2 hs3 hp1 HS1 hc hb2 hb3 hcc hW HB
      go_wp2_with fail
      rw [HW.out]
      clear HW k1 m1 hpx
      cases hr2 : sndR r1 with
      | none =>
        rw [thenR_none hr2] at ho
        subst ho
        refine (rsnd_none HS2.out.rd hr2).mono ?_
        rintro e w3 ⟨rfl, h1⟩
        exact ⟨rfl, HS2.out.ch.trans h1, rfl⟩
      | some q =>
        obtain ⟨x, r2⟩ := q
        rw [thenR_some hr2] at ho
        have hc := rsnd_some HS2.out.rd hr2
        clear hr2
        refine hc.mono ?_
        rintro e w3 ⟨rfl, h1, h2⟩
        have hs2 := HS2.out.chg h2 h1
        have hb2 := HB2.out.chg h2 (by simp; omega)
        have k2 := hb2.cell 2; have k3 := hb2.cell 3; have m2 := hb2.frozen 2; have m3 := hb2.frozen 3
        have hcc : Chg [w1.heap.size] w3 ((w3.setCell ⟨w1.heap.size, 2, none⟩ (.int .u32 x.1)).setCell ⟨w1.heap.size, 3, none⟩ (.int .u32 x.2)) := ((Chg.refl _ _).setCell (.inl (by simp)) _).setCell (.inl (by simp)) _
        have hb3 := (hb2.set_ 2 (.int .u32 x.1)).set_ 3 (.int .u32 x.2)
        simp only [List.setIfInBounds_toArray, List.set_cons_zero, List.set_cons_succ] at hb3
        have hs3 : CSt w ((w3.setCell ⟨w1.heap.size, 2, none⟩ (.int .u32 x.1)).setCell ⟨w1.heap.size, 3, none⟩ (.int .u32 x.2)) g b2 r2 76 #[.string ⟨#[]⟩, .int .u32 0, .int .u32 0, .int .u32 0] :=
          ⟨hs2.ch.new hcc (fun i hi => .inr (by simp at hi; omega)), hs2.rd.chg hcc (by simp; omega), hs2.rs.chg hcc (by simp; omega), hs2.cb.chg hcc (by simp; omega), hgw, hbw, hne⟩
        have q0 := hb3.cell 0; have q1 := hb3.cell 1; have q2 := hb3.cell 2; have q3 := hb3.cell 3
        have p0 := hs3.rs.cell 0; have p1 := hs3.rs.cell 1; have p2 := hs3.rs.cell 2; have p3 := hs3.rs.cell 3
        have z0 := hs3.rs.frozen 0; have z1 := hs3.rs.frozen 1; have z2 := hs3.rs.frozen 2; have z3 := hs3.rs.frozen 3
        simp only [List.getElem?_toArray, List.getElem?_cons_zero, List.getElem?_cons_succ] at q0 q1 q2 q3 p0 p1 p2 p3 k2 k3
        have hf := (((hs3.set_ 0 (.string s)).set_ 1 (.int .u32 k)).set_ 2 (.int .u32 x.1)).set_ 3 (.int .u32 x.2)
        simp only [List.setIfInBounds_toArray, List.set_cons_zero, List.set_cons_succ] at hf
        have HF := Lib.hid hf
        have HO := Lib.hid ho
        clear h1 h2 hs2 hs3 hp2 HS2 hc hb2 hb3 hcc HB2 hf ho
        go_wp2
        have d0 := HF.out.rs.cell 0; have d1 := HF.out.rs.cell 1; have d2 := HF.out.rs.cell 2; have d3 := HF.out.rs.cell 3
        simp only [List.getElem?_toArray, List.getElem?_cons_zero, List.getElem?_cons_succ] at d0 d1 d2 d3
        have ho := HO.out
        subst ho
        exact bodyPost_ret (v := .agg #[.string s, .int .u32 k, .int .u32 x.1, .int .u32 x.2]) (by simp [results, Tryz.results112, go_sem, d0, d1, d2, d3]) rfl ⟨HF.out.ch, _, rfl, rfl, HF.out.rd⟩
theorem rsome_ls (w : World) (g : Nat) (bs : List Nat) (h : Rd w g bs) :
    Calls Tryz.prog 75 #[wptr g, .func (.func 76) #[wptr g] #[]] w (LsPost g 2 SndF w (wordR bs)) := by
  refine (rsome_any w g bs h).mono fun e w' ⟨h1, h2⟩ => ⟨h1, ?_⟩
  cases ho : wordR bs with
  | none => rw [ho] at h2; exact h2
  | some q =>
    obtain ⟨s, r⟩ := q
    rw [ho] at h2
    obtain ⟨v, rfl, h3, h4⟩ := h2
    exact ⟨v, rfl, slF_own h3 (fun b hb => World.ownsRow.lt h3 b hb) (flat_rowsF s), h4⟩
set_option linter.unusedSimpArgs false in
set_option maxRecDepth 20000 in
set_option maxHeartbeats 2000000 in
theorem form_el (w : World) (g : Nat) (bs : List Nat) (h : Rd w g bs) :
    Calls Tryz.prog 116 #[wptr g] w (ElPost g FormF aggM w (formR bs)) := by
  have hrs := Blk.new w 82 #[.bool false, .slice none 0 0]
  have hch := (Chg.refl [g] w).alloc (.cells #[.bool false, .slice none 0 0] 82)
  have hrd := h.alloc (.cells #[.bool false, .slice none 0 0] 82)
  have hgw := h.lt
  obtain ⟨o, ho⟩ : ∃ o, formR bs = o := ⟨_, rfl⟩
  rw [ho]
  unfold formR at ho
  have HRS := Lib.hid hrs; have HCH := Lib.hid hch
  clear hrs hch h
  cases hr0 : flagR bs with
  | none =>
    have hc := rflag_none hrd hr0
    rw [thenR_none hr0] at ho
    subst ho
    clear hrd hr0
    go_enter Tryz.func116, Tryz.ntmps116
    go_wp2_with fail
    refine hc.mono ?_
    rintro e w1 ⟨rfl, h1⟩
    exact ⟨rfl, HCH.out.trans h1, rfl⟩
  | some q =>
    obtain ⟨fl, r0⟩ := q
    have hc := rflag_some hrd hr0
    rw [thenR_some hr0] at ho
    have HO := Lib.hid ho
    clear hrd hr0 ho
    go_enter Tryz.func116, Tryz.ntmps116
    go_wp2_with fail
    refine hc.mono ?_
    rintro e w1 ⟨rfl, h1, h2⟩
    have hb1 := HRS.out.chg h2 (by simp; omega)
    have hch1 := HCH.out.trans h2
    have c0 := hb1.cell 0; have c1 := hb1.cell 1; have f0 := hb1.frozen 0; have f1 := hb1.frozen 1
    simp only [List.getElem?_toArray, List.getElem?_cons_zero, List.getElem?_cons_succ] at c0 c1
    have HB := Lib.hid hb1; have HC1 := Lib.hid hch1; have HR1 := Lib.hid h1
    have hszw : w.heap.size < w1.heap.size := hb1.lt
    clear h1 h2 hb1 hch1 hc HCH HRS
    cases fl with
    | false =>
      have hf := (HB.out.set_ 0 (.bool false)).set_ 1 (.slice none 0 0)
      simp only [List.setIfInBounds_toArray, List.set_cons_zero, List.set_cons_succ] at hf
      have hcc : Chg [w.heap.size] w1 ((w1.setCell ⟨w.heap.size, 0, none⟩ (.bool false)).setCell ⟨w.heap.size, 1, none⟩ (.slice none 0 0)) := ((Chg.refl _ _).setCell (.inl (by simp)) _).setCell (.inl (by simp)) _
      have hfin : ElPost g FormF aggM w (some ((⟨false, []⟩ : Fm), r0)) (.returned (aggM [.bool false, .slice none 0 0])) ((w1.setCell ⟨w.heap.size, 0, none⟩ (.bool false)).setCell ⟨w.heap.size, 1, none⟩ (.slice none 0 0)) :=
        ⟨HC1.out.new hcc (fun i hi => .inr (by simp at hi; omega)), _, rfl, ⟨_, rfl, slF_nil _ _ _ _⟩, HR1.out.chg hcc (by simp; omega)⟩
      have HF := Lib.hid hf; have HFIN := Lib.hid hfin
      clear hf hcc hfin
      go_wp2
      have d0 := HF.out.cell 0; have d1 := HF.out.cell 1
      simp only [List.getElem?_toArray, List.getElem?_cons_zero, List.getElem?_cons_succ] at d0 d1
      have ho := HO.out
      simp only [Bool.false_eq_true, if_false] at ho
      subst ho
      exact bodyPost_ret (by simp [results, Tryz.results116, go_sem, d0, d1]) rfl HFIN.out
    | true =>
      have ho := HO.out
      simp only [if_true] at ho
      have hcall := rsome_ls w1 g r0 HR1.out
      cases hr1 : wordR r0 with
      | none =>
        rw [hr1] at hcall
        rw [thenR_none hr1] at ho
        subst ho
        have HCALL := Lib.hid hcall
        clear hcall hr1
        go_wp2_with fail
        refine HCALL.out.mono ?_
        rintro e w2 ⟨h1, rfl⟩
        exact ⟨rfl, HC1.out.trans h1, rfl⟩
      | some q =>
        obtain ⟨x, r1⟩ := q
        rw [hr1] at hcall
        rw [thenR_some hr1] at ho
        have HCALL := Lib.hid hcall; have HO2 := Lib.hid ho
        clear hcall hr1 ho
        go_wp2_with fail
        refine HCALL.out.mono ?_
        rintro e w2 ⟨h1, v, rfl, h2, h3⟩
        obtain ⟨A, c, rfl⟩ := h2.form
        have hb2 := HB.out.chg h1 (by simp; omega)
        have hch2 := HC1.out.trans h1
        have e0 := hb2.cell 0; have e1 := hb2.cell 1; have g0 := hb2.frozen 0; have g1 := hb2.frozen 1
        simp only [List.getElem?_toArray, List.getElem?_cons_zero, List.getElem?_cons_succ] at e0 e1
        have hf := (hb2.set_ 0 (.bool true)).set_ 1 (.slice A x.length c)
        simp only [List.setIfInBounds_toArray, List.set_cons_zero, List.set_cons_succ] at hf
        have hcc : Chg [w.heap.size] w2 ((w2.setCell ⟨w.heap.size, 0, none⟩ (.bool true)).setCell ⟨w.heap.size, 1, none⟩ (.slice A x.length c)) := ((Chg.refl _ _).setCell (.inl (by simp)) _).setCell (.inl (by simp)) _
        have hsc := hcc.size
        have hfin : ElPost g FormF aggM w (some ((⟨true, x⟩ : Fm), r1)) (.returned (aggM [.bool true, .slice A x.length c])) ((w2.setCell ⟨w.heap.size, 0, none⟩ (.bool true)).setCell ⟨w.heap.size, 1, none⟩ (.slice A x.length c)) :=
          ⟨hch2.new hcc (fun i hi => .inr (by simp at hi; omega)), _, rfl, ⟨_, rfl, SlF.plain (S := NewS w1 w2) (fun b hb => ⟨by have := hb.1; omega, by have := hb.2; omega⟩) (fun q hq => by unfold World.cell?; rw [hcc.block q.block hq.2 (by have := hq.1; simp; omega)]) h2⟩, h3.chg hcc (by simp; omega)⟩
        have HF := Lib.hid hf; have HFIN := Lib.hid hfin
        clear hf hcc hfin h1 h2 h3 hb2 hch2 c0 c1 f0 f1
        go_wp2
        have d0 := HF.out.cell 0; have d1 := HF.out.cell 1
        simp only [List.getElem?_toArray, List.getElem?_cons_zero, List.getElem?_cons_succ] at d0 d1
        have ho := HO2.out
        subst ho
        exact bodyPost_ret (by simp [results, Tryz.results116, go_sem, d0, d1]) rfl HFIN.out
end Go.Proofs.YtmepaeahchiglaaGreatDoor
