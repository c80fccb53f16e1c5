/-
  PackPuts: the walk. Conditions: a project that can be read.
-/
import Derived.Test.YtmepaeahchiglaaGreatDoorZaPjLg
import Derived.Test.YtmepaeahchiglaaGreatDoorZaaf
namespace Go.Proofs.YtmepaeahchiglaaGreatDoor
open Go.RowKit Go.Lib

theorem putP_lt (p : Pj) : ∀ c ∈ putP p, c < 256 := by
  unfold putP
  split
  · refine app_lt (bodyB_lt p) ?_
    intro c hc
    unfold fourB at hc
    simp only [List.mem_cons, List.not_mem_nil, or_false] at hc
    rcases hc with rfl | rfl | rfl | rfl <;> omega
  · intro c hc; cases hc
set_option linter.unusedSimpArgs false in
set_option linter.unusedVariables false in
set_option maxRecDepth 20000 in
set_option maxHeartbeats 8000000 in
theorem packPuts_law (w : World) (p : Pj) (cs : List Value) (hp : ProjC w w.heap.size p cs) (hr : (∀ l ∈ p.on, l.length ≤ 1000000000) → PjRd p) (h32 : ∀ l ∈ p.laws, ∀ x ∈ l.outs, is32 x.clear ∧ ok32 x.set ∧ is32 x.take) :
    Calls Tryz.prog 3 #[.agg cs.toArray] w fun e w' => e = .returned (.bool true) ∧ Below w.heap.size w w' := by
  obtain ⟨v1, v2, v3, v4, v5, v6, v7, v8, rfl, q1, q2, q3, q4, q5, q6, q7, q8⟩ := hp
  have hp : ProjC w w.heap.size p [v1, v2, v3, v4, v5, v6, v7, v8] := ⟨_, _, _, _, _, _, _, _, rfl, q1, q2, q3, q4, q5, q6, q7, q8⟩
  obtain ⟨A1, m1, c1, rfl, -⟩ := q1.form
  obtain ⟨A2, m2, c2, rfl, -⟩ := q2.form
  obtain ⟨A3, m3, c3, rfl, -⟩ := q3.form
  obtain ⟨A4, m4, c4, rfl, -⟩ := q4.form
  obtain ⟨A5, m5, c5, rfl, -⟩ := q5.form
  obtain ⟨A6, m6, c6, rfl, -⟩ := q6.form
  obtain ⟨A7, m7, c7, rfl, -⟩ := q7.form
  obtain ⟨A8, m8, c8, rfl, -⟩ := q8.form
  obtain ⟨o, ho⟩ : ∃ o, Obj.cells #[.slice A1 m1 c1, .slice A2 m2 c2, .slice A3 m3 c3, .slice A4 m4 c4, .slice A5 m5 c5, .slice A6 m6 c6, .slice A7 m7 c7, .slice A8 m8 c8] 33 = o := ⟨_, rfl⟩
  have hb0 := (Below.refl w.heap.size w).alloc (Nat.le_refl _) o
  have hk0 : Blk (w.alloc o) w.heap.size 33 #[.slice A1 m1 c1, .slice A2 m2 c2, .slice A3 m3 c3, .slice A4 m4 c4, .slice A5 m5 c5, .slice A6 m6 c6, .slice A7 m7 c7, .slice A8 m8 c8] := by rw [← ho]; exact Blk.new w _ _
  have hle1 : w.heap.size ≤ (w.alloc o).heap.size := by rw [World.size_alloc]; omega
  have hkp := fun (W : World) (hW : Below w.heap.size w W) => fun (q : Addr) (hq : q.block < w.heap.size) => hW.cell (p := q) hq
  have hli := light_any (w.alloc o) w.heap.size p _ (ProjC.keep (hkp _ hb0) hp) hle1
  have hput := fun (hrd : PjRd p) (W : World) (hW : Below w.heap.size w W) => put_any W w.heap.size p _ (ProjC.keep (hkp _ hW) hp) hW.size hrd h32
  have href := fun (hrd : PjRd p) (W : World) (hW : Below w.heap.size w W) => refPut_any W w.heap.size p _ (ProjC.keep (hkp _ hW) hp) hW.size hrd h32 (fun W' B' cs' h' hB' => rcheck_any W' B' p cs' h' hB' hrd)
  have hlt := putP_lt p
  obtain ⟨bs, hbs⟩ : ∃ b, putP p = b := ⟨_, rfl⟩
  obtain ⟨x, hx⟩ : ∃ x, projE p = x := ⟨_, rfl⟩
  simp only [hbs, hx] at hput href
  rw [hbs] at hlt
  have hxx : (x == x) = true := by simp
  have HO := Lib.hid ho; have HB0 := Lib.hid hb0; have HK0 := Lib.hid hk0; have HLI := Lib.hid hli; have HPUT := Lib.hid hput; have HREF := Lib.hid href; have HLT := Lib.hid hlt; have HR := Lib.hid hr; have HWK := Lib.hid works_any
  have g0 := hk0.cell 0; have g1 := hk0.cell 1; have g2 := hk0.cell 2; have g3 := hk0.cell 3; have g4 := hk0.cell 4; have g5 := hk0.cell 5; have g6 := hk0.cell 6; have g7 := hk0.cell 7
  simp only [List.getElem?_toArray, List.getElem?_cons_zero, List.getElem?_cons_succ] at g0 g1 g2 g3 g4 g5 g6 g7
  clear q1 q2 q3 q4 q5 q6 q7 q8 ho hb0 hk0 hkp hli hput href hlt hr h32 hp hbs hx
  go_enter Tryz.func3, Tryz.ntmps3
  go_wp2_with (rw [HO.out])
  refine HLI.out.mono ?_
  rintro e w1 ⟨⟨b, rfl, hb⟩, hb1⟩
  have HB1 := Lib.hid (HB0.out.trans (hb1.mono hle1)); have HK1 := Lib.hid (HK0.out.below hb1 HK0.out.lt)
  have HB := Lib.hid hb
  clear hb1 hb g0 g1 g2 g3 g4 g5 g6 g7
  have g0 := HK1.out.cell 0; have g1 := HK1.out.cell 1; have g2 := HK1.out.cell 2; have g3 := HK1.out.cell 3; have g4 := HK1.out.cell 4; have g5 := HK1.out.cell 5; have g6 := HK1.out.cell 6; have g7 := HK1.out.cell 7
  simp only [List.getElem?_toArray, List.getElem?_cons_zero, List.getElem?_cons_succ] at g0 g1 g2 g3 g4 g5 g6 g7
  cases b with
  | false =>
    go_wp2_with fail
    refine (HWK.out w1).mono ?_
    rintro e w2 ⟨rfl, hb2⟩
    have HB2 := Lib.hid (HB1.out.trans (hb2.mono HB1.out.size))
    clear hb2
    go_wp2
    go_ret
    exact ⟨rfl, HB2.out⟩
  | true =>
    have hrd := HR.out (fun l hl => by have := (HB.out rfl).2 l hl; omega)
    have hc1 := HPUT.out hrd w1 HB1.out
    have HRD := Lib.hid hrd; have HC1 := Lib.hid hc1
    clear hrd hc1
    go_wp2_with fail
    refine HC1.out.mono ?_
    rintro e w2 ⟨va, rfl, hoa, hb2⟩
    obtain ⟨Aa, ca, rfl, _, _⟩ := ownsRow_form hoa
    have HB2 := Lib.hid (HB1.out.trans (hb2.mono HB1.out.size)); have HK2 := Lib.hid (HK1.out.below hb2 HK1.out.lt); have HOA := Lib.hid hoa
    clear hb2 hoa g0 g1 g2 g3 g4 g5 g6 g7
    have g0 := HK2.out.cell 0; have g1 := HK2.out.cell 1; have g2 := HK2.out.cell 2; have g3 := HK2.out.cell 3; have g4 := HK2.out.cell 4; have g5 := HK2.out.cell 5; have g6 := HK2.out.cell 6; have g7 := HK2.out.cell 7
    simp only [List.getElem?_toArray, List.getElem?_cons_zero, List.getElem?_cons_succ] at g0 g1 g2 g3 g4 g5 g6 g7
    have hc2 := HREF.out HRD.out w2 HB2.out
    have HC2 := Lib.hid hc2
    clear hc2
    go_wp2_with fail
    refine HC2.out.mono ?_
    rintro e w3 ⟨vb, rfl, hob, hb3⟩
    obtain ⟨Ab, cb, rfl, _, _⟩ := ownsRow_form hob
    have HB3 := Lib.hid (HB2.out.trans (hb3.mono HB2.out.size)); have HOA3 := Lib.hid (own_below' HOA.out hb3); have HOB := Lib.hid hob
    clear hb3 hob g0 g1 g2 g3 g4 g5 g6 g7
    have heq := bytesEq_any Aa Ab bs.length bs.length ca cb w3.heap.size bs bs w3 (Reads.of_own HOA3.out) (Reads.of_own HOB.out) HLT.out HLT.out
    rw [decide_eq_true rfl] at heq
    have HEQ := Lib.hid heq
    clear heq
    go_wp2_with (go_at_call 12; refine HEQ.out.mono ?_; rintro e w4 ⟨rfl, rfl⟩)
    refine (HWK.out w3).mono ?_
    rintro e w5 ⟨rfl, hb5⟩
    have HB5 := Lib.hid (HB3.out.trans (hb5.mono HB3.out.size))
    clear hb5
    go_wp2
    go_ret
    exact ⟨rfl, HB5.out⟩
end Go.Proofs.YtmepaeahchiglaaGreatDoor
namespace Go.Proofs.YtmepaeahchiglaaGreatDoor
open Go.ChangeShapes Go.WideShapes Go.ChangeAt Go.RowKit

section
variable {H : Type} {enc : TypeId × Value → H} {P : Program} {W : World}
theorem rowsC_of {α : Type} {Q : World → Nat → α → List Value → Prop} {w : World} {B : Nat} (q : Nat → α) (z : Nat → List Value) : ∀ L : List Nat, (∀ i ∈ L, Q w B (q i) (z i)) → RowsC Q w B (L.map q) (L.flatMap z)
  | [], _ => rfl
  | i :: L, h => ⟨z i, L.flatMap z, rfl, h i List.mem_cons_self, rowsC_of q z L fun j hj => h j (List.mem_cons_of_mem _ hj)⟩
/-- A slice of elements that can be opened. -/
theorem open_slC {α : Type} [Inhabited α] {t e : TypeId} {k : Nat} (hk : 0 < k) (Q : World → Nat → α → List Value → Prop) (ok : α → Prop) (ht : P.underlying t = some (.slice e)) (ce : P.cellsOf e = k)
    (ho : ∀ (n : Nat) (cs : List Value) (y : DataW H × List MemPlace), DataW.trod enc P W 0 (fun _ => true) true n e cs = some y → ∃ x : α, Q W W.heap.size x cs ∧ ok x) {fuel : Nat} {cs : List Value} {x : DataW H × List MemPlace}
    (h : DataW.trod enc P W 0 (fun _ => true) true fuel t cs = some x) :
    ∃ (v : Value) (l : List α), cs = [v] ∧ SlC Q k W W.heap.size l v ∧ ∀ y ∈ l, ok y := by
  rcases Go.Deep.open_slice ht h with ⟨rfl, _⟩ | ⟨a, len, cap, m, n, D, Pl, rfl, hb, hl, hm, hmm, rfl, hx⟩
  · exact ⟨_, [], rfl, ⟨none, 0, [], rfl, ⟨by simp, by unfold maxLen; omega⟩, Reads.none_, rfl⟩, fun s hs => by cases hs⟩
  · simp only [if_true] at hmm
    subst hmm
    have each : ∀ i, i < m → ∃ q : α × List Value, Q W W.heap.size q.1 q.2 ∧ ok q.1 ∧ q.2.length = k ∧ ∀ j u, q.2[j]? = some u → W.cell? (a.add (i * k + j)) = some u := by
      intro i hi
      obtain ⟨cs', h1, h2⟩ := hx i hi
      rw [ce] at h1
      obtain ⟨_, hlen, hcell⟩ := World.cells?_some h1
      obtain ⟨q, hq, hq2⟩ := ho _ _ _ h2
      refine ⟨(q, _), hq, hq2, by simpa using hlen, fun j u hu => ?_⟩
      have hj : j < k := by have := (List.getElem?_eq_some_iff.1 hu).1; simp at this; omega
      have := hcell j hj
      rw [Go.Deep.add_add] at this
      rw [this]; exact hu
    obtain ⟨q, hq⟩ := Go.Deep.choose_lt each
    have hz : ∀ i, ((fun i => if i < len then (q i).2 else List.replicate k (.bool false)) i).length = k := fun i => by
      by_cases h : i < len
      · simp only [if_pos h]; exact (hq i (by omega)).2.2.1
      · simp only [if_neg h]; simp
    refine ⟨_, (List.range len).map fun i => (q i).1, rfl, ⟨some a, m, (List.range len).flatMap fun i => if i < len then (q i).2 else List.replicate k (.bool false), by simp, ⟨by simpa using hl, hm⟩, ?_, ?_⟩, fun s hs => ?_⟩
    · rw [List.length_map, List.length_range]
      exact reads_rows hk _ hz fun i hi j u hu => by
        simp only [if_pos hi] at hu
        exact (hq i (by omega)).2.2.2 j u hu
    · exact rowsC_of (fun i => (q i).1) _ (List.range len) fun i hi => by
        have hi := List.mem_range.1 hi
        simp only [if_pos hi]
        exact (hq i (by omega)).1
    · obtain ⟨i, hi, rfl⟩ := List.mem_map.1 hs
      exact (hq i (by have := List.mem_range.1 hi; omega)).2.1
end
end Go.Proofs.YtmepaeahchiglaaGreatDoor
namespace Go.Proofs.YtmepaeahchiglaaGreatDoor
open Go.ChangeShapes Go.WideShapes Go.ChangeAt Go.RowKit

section
variable {H : Type} {enc : TypeId × Value → H} {P : Program} {W : World}
def NdTy (P : Program) (t : TypeId) : Prop := ∃ g0 g1 : Field, P.underlying t = some (.struct #[g0, g1]) ∧ (g0.offset = 0 ∧ g1.offset = 1) ∧ (P.cellsOf g0.type = 1 ∧ P.cellsOf g1.type = 1 ∧ P.cellsOf t = 2) ∧ P.underlying g0.type = some (.int .i64) ∧ P.underlying g1.type = some .string
theorem open_nd_t {t : TypeId} (T : NdTy P t) {fuel : Nat} {cs : List Value} {y : DataW H × List MemPlace} (h : DataW.trod enc P W 0 (fun _ => true) true fuel t cs = some y) : ∃ x : Nd, NdC W W.heap.size x cs ∧ x.2.size ≤ maxLen := by
  obtain ⟨g0, g1, hu, ⟨o0, o1⟩, ⟨c0, c1, c2⟩, u0, u1⟩ := T
  obtain ⟨xs, n, _, _, hl, hlen, hf⟩ := DataW.trod_struct hu h
  rw [c2] at hl
  match xs, hlen, cs, hl with
  | [y0, y1], _, [v0, v1], _ =>
    have k0 := hf 0 g0 rfl
    have k1 := hf 1 g1 rfl
    simp [o0, o1, c0, c1] at k0 k1
    obtain ⟨z0, e0, _, w0⟩ := DataW.trod_int u0 k0
    obtain ⟨nm, e1, _, hnm⟩ := DataW.trod_string u1 k1
    simp only [List.cons.injEq, and_true] at e0 e1
    subst e0 e1
    exact ⟨(z0, nm), rfl, hnm⟩
def NamTy (P : Program) (t : TypeId) : Prop := ∃ g0 g1 : Field, P.underlying t = some (.struct #[g0, g1]) ∧ (g0.offset = 0 ∧ g1.offset = 1) ∧ (P.cellsOf g0.type = 1 ∧ P.cellsOf g1.type = 2 ∧ P.cellsOf t = 3) ∧ P.underlying g0.type = some .string ∧ SndTy P g1.type
theorem open_nam_t {t : TypeId} (T : NamTy P t) {fuel : Nat} {cs : List Value} {y : DataW H × List MemPlace} (h : DataW.trod enc P W 0 (fun _ => true) true fuel t cs = some y) : ∃ x : Nam, NmdC W W.heap.size x cs ∧ x.1.size ≤ maxLen ∧ ok32 x.2 := by
  obtain ⟨g0, g1, hu, ⟨o0, o1⟩, ⟨c0, c1, c2⟩, u0, u1⟩ := T
  obtain ⟨xs, n, _, _, hl, hlen, hf⟩ := DataW.trod_struct hu h
  rw [c2] at hl
  match xs, hlen, cs, hl with
  | [y0, y1], _, [v0, v1, v2], _ =>
    have k0 := hf 0 g0 rfl
    have k1 := hf 1 g1 rfl
    simp [o0, o1, c0, c1] at k0 k1
    obtain ⟨nm, e0, _, hnm⟩ := DataW.trod_string u0 k0
    obtain ⟨s, e1, hs⟩ := open_snd_t u1 k1
    simp only [sndC, List.cons.injEq, and_true] at e0 e1
    obtain ⟨rfl, rfl⟩ := e1
    subst e0
    exact ⟨(nm, s), rfl, hnm, hs⟩
def FmTy (P : Program) (t : TypeId) : Prop := ∃ g0 g1 : Field, ∃ es : TypeId, P.underlying t = some (.struct #[g0, g1]) ∧ (g0.offset = 0 ∧ g1.offset = 1) ∧ (P.cellsOf g0.type = 1 ∧ P.cellsOf g1.type = 1 ∧ P.cellsOf t = 2) ∧ P.underlying g0.type = some .bool ∧ (P.underlying g1.type = some (.slice es) ∧ P.cellsOf es = 2 ∧ SndTy P es)
theorem open_fm_t {t : TypeId} (T : FmTy P t) {fuel : Nat} {cs : List Value} {y : DataW H × List MemPlace} (h : DataW.trod enc P W 0 (fun _ => true) true fuel t cs = some y) : ∃ x : Fm, FormC W W.heap.size x cs ∧ ∀ s ∈ x.w, ok32 s := by
  obtain ⟨g0, g1, es, hu, ⟨o0, o1⟩, ⟨c0, c1, c2⟩, u0, ⟨u1, cs1, t1⟩⟩ := T
  obtain ⟨xs, n, _, _, hl, hlen, hf⟩ := DataW.trod_struct hu h
  rw [c2] at hl
  match xs, hlen, cs, hl with
  | [y0, y1], _, [v0, v1], _ =>
    have k0 := hf 0 g0 rfl
    have k1 := hf 1 g1 rfl
    simp [o0, o1, c0, c1] at k0 k1
    obtain ⟨b, e0, _⟩ := DataW.trod_bool u0 k0
    obtain ⟨v, l, e1, hs, hok⟩ := open_slC (by decide) SndCC ok32 u1 cs1 (fun n cs y hh => open_snd_t t1 hh) k1
    simp only [List.cons.injEq, and_true] at e0 e1
    subst e0 e1
    exact ⟨⟨b, l⟩, ⟨_, rfl, hs⟩, hok⟩
instance : Inhabited Fm := ⟨⟨false, []⟩⟩
instance : Inhabited En := ⟨⟨⟨#[]⟩, []⟩⟩
def EnTy (P : Program) (t : TypeId) : Prop := ∃ g0 g1 : Field, ∃ es : TypeId, P.underlying t = some (.struct #[g0, g1]) ∧ (g0.offset = 0 ∧ g1.offset = 1) ∧ (P.cellsOf g0.type = 1 ∧ P.cellsOf g1.type = 1 ∧ P.cellsOf t = 2) ∧ P.underlying g0.type = some .string ∧ (P.underlying g1.type = some (.slice es) ∧ P.cellsOf es = 2 ∧ FmTy P es)
theorem open_en_t {t : TypeId} (T : EnTy P t) {fuel : Nat} {cs : List Value} {y : DataW H × List MemPlace} (h : DataW.trod enc P W 0 (fun _ => true) true fuel t cs = some y) : ∃ x : En, EnC W W.heap.size x cs ∧ (x.gloss.size ≤ maxLen ∧ ∀ f ∈ x.forms, ∀ s ∈ f.w, ok32 s) := by
  obtain ⟨g0, g1, es, hu, ⟨o0, o1⟩, ⟨c0, c1, c2⟩, u0, ⟨u1, cs1, t1⟩⟩ := T
  obtain ⟨xs, n, _, _, hl, hlen, hf⟩ := DataW.trod_struct hu h
  rw [c2] at hl
  match xs, hlen, cs, hl with
  | [y0, y1], _, [v0, v1], _ =>
    have k0 := hf 0 g0 rfl
    have k1 := hf 1 g1 rfl
    simp [o0, o1, c0, c1] at k0 k1
    obtain ⟨nm, e0, _, hnm⟩ := DataW.trod_string u0 k0
    obtain ⟨v, l, e1, hs, hok⟩ := open_slC (by decide) FormC (fun f => ∀ s ∈ f.w, ok32 s) u1 cs1 (fun n cs y hh => open_fm_t t1 hh) k1
    simp only [List.cons.injEq, and_true] at e0 e1
    subst e0 e1
    exact ⟨⟨nm, l⟩, ⟨_, rfl, hs⟩, hnm, hok⟩
end
end Go.Proofs.YtmepaeahchiglaaGreatDoor
namespace Go.Proofs.YtmepaeahchiglaaGreatDoor
open Go.ChangeShapes Go.WideShapes Go.ChangeAt Go.RowKit

section
variable {H : Type} {enc : TypeId × Value → H} {P : Program} {W : World}
def MkTy (P : Program) (t : TypeId) : Prop := ∃ g0 g1 g2 : Field, P.underlying t = some (.struct #[g0, g1, g2]) ∧ (g0.offset = 0 ∧ g1.offset = 1 ∧ g2.offset = 2) ∧ (P.cellsOf g0.type = 1 ∧ P.cellsOf g1.type = 1 ∧ P.cellsOf g2.type = 2 ∧ P.cellsOf t = 4) ∧ P.underlying g0.type = some .string ∧ P.underlying g1.type = some (.int .u32) ∧ SndTy P g2.type
theorem open_mk_t {t : TypeId} (T : MkTy P t) {fuel : Nat} {cs : List Value} {y : DataW H × List MemPlace} (h : DataW.trod enc P W 0 (fun _ => true) true fuel t cs = some y) : ∃ x : Mk, MkdC W W.heap.size x cs ∧ okMk x := by
  obtain ⟨g0, g1, g2, hu, ⟨o0, o1, o2⟩, ⟨c0, c1, c2, c3⟩, u0, u1, u2⟩ := T
  obtain ⟨xs, n, _, _, hl, hlen, hf⟩ := DataW.trod_struct hu h
  rw [c3] at hl
  match xs, hlen, cs, hl with
  | [y0, y1, y2], _, [v0, v1, v2, v3], _ =>
    have k0 := hf 0 g0 rfl
    have k1 := hf 1 g1 rfl
    have k2 := hf 2 g2 rfl
    simp [o0, o1, o2, c0, c1, c2] at k0 k1 k2
    obtain ⟨nm, e0, _, hnm⟩ := DataW.trod_string u0 k0
    obtain ⟨z1, e1, _, w1⟩ := DataW.trod_int u1 k1
    obtain ⟨s, e2, hs⟩ := open_snd_t u2 k2
    simp only [sndC, List.cons.injEq, and_true] at e0 e1 e2
    obtain ⟨rfl, rfl⟩ := e2
    subst e0 e1
    obtain ⟨m1, rfl, l1⟩ := u32_of_wf w1
    exact ⟨⟨nm, m1, s⟩, rfl, l1, hs, hnm⟩
theorem open_str_t {t : TypeId} (T : P.underlying t = some .string) {fuel : Nat} {cs : List Value} {y : DataW H × List MemPlace} (h : DataW.trod enc P W 0 (fun _ => true) true fuel t cs = some y) : ∃ x : ByteArray, StrC W W.heap.size x cs ∧ x.size ≤ maxLen := by
  obtain ⟨nm, e0, _, hnm⟩ := DataW.trod_string T h
  exact ⟨nm, e0, hnm⟩
theorem open_int_t {t : TypeId} (T : P.underlying t = some (.int .i64)) {fuel : Nat} {cs : List Value} {y : DataW H × List MemPlace} (h : DataW.trod enc P W 0 (fun _ => true) true fuel t cs = some y) : ∃ x : Int, IntC W W.heap.size x cs ∧ True := by
  obtain ⟨k, e0, _, _⟩ := DataW.trod_int T h
  exact ⟨k, e0, trivial⟩
theorem open_on_t {t e : TypeId} (T : P.underlying t = some (.slice e)) (ce : P.cellsOf e = 1) (T2 : P.underlying e = some (.int .i64)) {fuel : Nat} {cs : List Value} {y : DataW H × List MemPlace} (h : DataW.trod enc P W 0 (fun _ => true) true fuel t cs = some y) : ∃ x : List Int, OnC W W.heap.size x cs ∧ True := by
  obtain ⟨v, l, e1, hs, -⟩ := open_slC (by decide) IntC (fun _ => True) T ce (fun n cs y hh => open_int_t T2 hh) h
  exact ⟨l, ⟨v, e1, hs⟩, trivial⟩
def ok32L (l : Lw) : Prop := ∀ x ∈ l.outs, is32 x.clear ∧ ok32 x.set ∧ is32 x.take
instance : Inhabited Lw := ⟨⟨⟨#[]⟩, .mk 1 (0, 0) false 0 0 [], .mk 1 (0, 0) false 0 0 [], [], [], 1⟩⟩
def HistTy (P : Program) (t : TypeId) : Prop := ∃ g0 g1 g2 : Field, ∃ e0 e1 e2 e3 : TypeId, P.underlying t = some (.struct #[g0, g1, g2]) ∧ (g0.offset = 0 ∧ g1.offset = 1 ∧ g2.offset = 2) ∧ (P.cellsOf g0.type = 1 ∧ P.cellsOf g1.type = 1 ∧ P.cellsOf g2.type = 1 ∧ P.cellsOf t = 3) ∧
  (P.underlying g0.type = some (.slice e0) ∧ P.cellsOf e0 = 2 ∧ NdTy P e0) ∧ (P.underlying g1.type = some (.slice e1) ∧ P.cellsOf e1 = 18 ∧ LawTy P e1) ∧ (P.underlying g2.type = some (.slice e2) ∧ P.cellsOf e2 = 1 ∧ P.underlying e2 = some (.slice e3) ∧ P.cellsOf e3 = 1 ∧ P.underlying e3 = some (.int .i64))
theorem open_hist_t {t : TypeId} (T : HistTy P t) {fuel : Nat} {cs : List Value} {y : DataW H × List MemPlace} (h : DataW.trod enc P W 0 (fun _ => true) true fuel t cs = some y) : ∃ (v4 v5 v6 : Value) (tr : List Nd) (laws : List Lw) (on : List (List Int)), cs = [v4, v5, v6] ∧
    (SlC NdC 2 W W.heap.size tr v4 ∧ ∀ x ∈ tr, x.2.size ≤ maxLen) ∧ (SlC LawC 18 W W.heap.size laws v5 ∧ ∀ l ∈ laws, l.name.size ≤ maxLen) ∧ SlC OnC 1 W W.heap.size on v6 := by
  obtain ⟨g0, g1, g2, q0, q1, q2, q3, hu, ⟨o0, o1, o2⟩, ⟨c0, c1, c2, c3⟩, ⟨u0, d0, t0⟩, ⟨u1, d1, t1⟩, ⟨u2, d2, u3, d3, u4⟩⟩ := T
  obtain ⟨xs, n, _, _, hl, hlen, hf⟩ := DataW.trod_struct hu h
  rw [c3] at hl
  match xs, hlen, cs, hl with
  | [y0, y1, y2], _, [v0, v1, v2], _ =>
    have k0 := hf 0 g0 rfl
    have k1 := hf 1 g1 rfl
    have k2 := hf 2 g2 rfl
    simp [o0, o1, o2, c0, c1, c2] at k0 k1 k2
    obtain ⟨w0, l0, e0, s0, b0⟩ := open_slC (by decide) NdC (fun x => x.2.size ≤ maxLen) u0 d0 (fun n cs y hh => open_nd_t t0 hh) k0
    obtain ⟨w1, l1, e1, s1, b1⟩ := open_slC (by decide) LawC (fun l => l.name.size ≤ maxLen) u1 d1 (fun n cs y hh => open_law_t t1 hh) k1
    obtain ⟨w2, l2, e2, s2, -⟩ := open_slC (by decide) OnC (fun _ => True) u2 d2 (fun n cs y hh => open_on_t u3 d3 u4 hh) k2
    simp only [List.cons.injEq, and_true] at e0 e1 e2
    subst e0 e1 e2
    exact ⟨_, _, _, l0, l1, l2, rfl, ⟨s0, b0⟩, ⟨s1, b1⟩, s2⟩
end
end Go.Proofs.YtmepaeahchiglaaGreatDoor
namespace Go.Proofs.YtmepaeahchiglaaGreatDoor
open Go.ChangeShapes Go.WideShapes Go.ChangeAt Go.RowKit

section
variable {H : Type} {enc : TypeId × Value → H} {P : Program} {W : World}
def ProjTy (P : Program) (t : TypeId) : Prop := ∃ g0 g1 g2 g3 g4 g5 : Field, ∃ e0 e1 e2 e4 e5 : TypeId, P.underlying t = some (.struct #[g0, g1, g2, g3, g4, g5]) ∧ (g0.offset = 0 ∧ g1.offset = 1 ∧ g2.offset = 2 ∧ g3.offset = 3 ∧ g4.offset = 6 ∧ g5.offset = 7) ∧
  (P.cellsOf g0.type = 1 ∧ P.cellsOf g1.type = 1 ∧ P.cellsOf g2.type = 1 ∧ P.cellsOf g3.type = 3 ∧ P.cellsOf g4.type = 1 ∧ P.cellsOf g5.type = 1 ∧ P.cellsOf t = 8) ∧
  (P.underlying g0.type = some (.slice e0) ∧ P.cellsOf e0 = 1 ∧ P.underlying e0 = some .string) ∧ (P.underlying g1.type = some (.slice e1) ∧ P.cellsOf e1 = 3 ∧ NamTy P e1) ∧ (P.underlying g2.type = some (.slice e2) ∧ P.cellsOf e2 = 4 ∧ MkTy P e2) ∧ HistTy P g3.type ∧
  (P.underlying g4.type = some (.slice e4) ∧ P.cellsOf e4 = 2 ∧ FmTy P e4) ∧ (P.underlying g5.type = some (.slice e5) ∧ P.cellsOf e5 = 2 ∧ EnTy P e5)
theorem open_proj_t {t : TypeId} (T : ProjTy P t) {fuel : Nat} {cs : List Value} {y : DataW H × List MemPlace} (h : DataW.trod enc P W 0 (fun _ => true) true fuel t cs = some y) :
    ∃ p : Pj, ProjC W W.heap.size p cs ∧ ((∀ l ∈ p.on, l.length ≤ 1000000000) → PjRd p) := by
  obtain ⟨g0, g1, g2, g3, g4, g5, q0, q1, q2, q4, q5, hu, ⟨o0, o1, o2, o3, o4, o5⟩, ⟨c0, c1, c2, c3, c4, c5, c6⟩, ⟨u0, d0, t0⟩, ⟨u1, d1, t1⟩, ⟨u2, d2, t2⟩, u3, ⟨u4, d4, t4⟩, ⟨u5, d5, t5⟩⟩ := T
  obtain ⟨xs, n, _, _, hl, hlen, hf⟩ := DataW.trod_struct hu h
  rw [c6] at hl
  match xs, hlen, cs, hl with
  | [y0, y1, y2, y3, y4, y5], _, [v0, v1, v2, v3, v4, v5, v6, v7], _ =>
    have k0 := hf 0 g0 rfl
    have k1 := hf 1 g1 rfl
    have k2 := hf 2 g2 rfl
    have k3 := hf 3 g3 rfl
    have k4 := hf 4 g4 rfl
    have k5 := hf 5 g5 rfl
    simp [o0, o1, o2, o3, o4, o5, c0, c1, c2, c3, c4, c5] at k0 k1 k2 k3 k4 k5
    obtain ⟨w0, l0, e0, s0, b0⟩ := open_slC (by decide) StrC (fun x => x.size ≤ maxLen) u0 d0 (fun n cs y hh => open_str_t t0 hh) k0
    obtain ⟨w1, l1, e1, s1, b1⟩ := open_slC (by decide) NmdC (fun x => x.1.size ≤ maxLen ∧ ok32 x.2) u1 d1 (fun n cs y hh => open_nam_t t1 hh) k1
    obtain ⟨w2, l2, e2, s2, b2⟩ := open_slC (by decide) MkdC okMk u2 d2 (fun n cs y hh => open_mk_t t2 hh) k2
    obtain ⟨x4, x5, x6, tr, laws, on, e3, ⟨s4, b4⟩, ⟨s5, b5⟩, s6⟩ := open_hist_t u3 k3
    obtain ⟨w7, l7, e7, s7, b7⟩ := open_slC (by decide) FormC (fun f => ∀ s ∈ f.w, ok32 s) u4 d4 (fun n cs y hh => open_fm_t t4 hh) k4
    obtain ⟨w8, l8, e8, s8, b8⟩ := open_slC (by decide) EnC (fun x => x.gloss.size ≤ maxLen ∧ ∀ f ∈ x.forms, ∀ s ∈ f.w, ok32 s) u5 d5 (fun n cs y hh => open_en_t t5 hh) k5
    simp only [List.cons.injEq, and_true] at e0 e1 e2 e3 e7 e8
    obtain ⟨rfl, rfl, rfl⟩ := e3
    subst e0 e1 e2 e7 e8
    exact ⟨⟨l0, l1, l2, tr, laws, on, l7, l8⟩, ⟨_, _, _, _, _, _, _, _, rfl, s0, s1, s2, s4, s5, s6, s7, s8⟩, fun hon => ⟨b0, b1, b2, b4, b5, hon, b7, b8⟩⟩
/-- The laws' numbers have 32 bits. -/
theorem laws_32 {w : World} {B : Nat} : ∀ {l : List Lw} {xs : List Value}, RowsC LawC w B l xs → ∀ x ∈ l, ok32L x
  | [], _, _, x, hx => by cases hx
  | y :: l, _, ⟨c1, c2, _, h1, h2⟩, x, hx => by
    rcases List.mem_cons.1 hx with rfl | hx
    · exact law_s32 h1
    · exact laws_32 h2 x hx
theorem proj_32 {w : World} {B : Nat} {p : Pj} {cs : List Value} (h : ProjC w B p cs) : ∀ l ∈ p.laws, ∀ x ∈ l.outs, is32 x.clear ∧ ok32 x.set ∧ is32 x.take := by
  obtain ⟨_, _, _, _, _, _, _, _, _, _, _, _, _, h5, _⟩ := h
  obtain ⟨_, _, _, _, _, _, h⟩ := h5
  exact fun l hl => laws_32 h l hl
theorem open_proj {t : TypeId} (T : ProjTy P t) {b0 : Nat} {v : Value} {d : DataW H} {ps : List MemPlace} (hval : Value.okWide P W .any b0 t v) (h : DataW.Trod enc P W 0 (fun _ => true) true t v d ps) : ∃ (p : Pj) (cs : List Value), v = .agg cs.toArray ∧ ProjC W W.heap.size p cs ∧ ((∀ l ∈ p.on, l.length ≤ 1000000000) → PjRd p) := by
  have T' := T
  obtain ⟨g0, g1, g2, g3, g4, g5, q0, q1, q2, q4, q5, hu, -⟩ := T'
  obtain ⟨cs, rfl, _⟩ := okWide_struct hu hval
  obtain ⟨fuel, hf⟩ := h
  obtain ⟨p, h1, h2⟩ := open_proj_t T hf
  exact ⟨p, cs.toList, by simp, by simpa [Value.cells] using h1, h2⟩
end
theorem ndTy : NdTy Tryz.prog 78 := ⟨_, _, Tryz.underlying78, ⟨rfl, rfl⟩, ⟨by kernel_rfl, by kernel_rfl, by kernel_rfl⟩, Tryz.underlying3, Tryz.underlying9⟩
theorem namTy : NamTy Tryz.prog 74 := ⟨_, _, Tryz.underlying74, ⟨rfl, rfl⟩, ⟨by kernel_rfl, by kernel_rfl, by kernel_rfl⟩, Tryz.underlying9, sndTy⟩
theorem mkTy : MkTy Tryz.prog 76 := ⟨_, _, _, Tryz.underlying76, ⟨rfl, rfl, rfl⟩, ⟨by kernel_rfl, by kernel_rfl, by kernel_rfl, by kernel_rfl⟩, Tryz.underlying9, Tryz.underlying42, sndTy⟩
theorem fmTy : FmTy Tryz.prog 82 := ⟨_, _, _, Tryz.underlying82, ⟨rfl, rfl⟩, ⟨by kernel_rfl, by kernel_rfl, by kernel_rfl⟩, Tryz.underlying4, ⟨Tryz.underlying59, by kernel_rfl, sndTy⟩⟩
theorem enTy : EnTy Tryz.prog 84 := ⟨_, _, _, Tryz.underlying84, ⟨rfl, rfl⟩, ⟨by kernel_rfl, by kernel_rfl, by kernel_rfl⟩, Tryz.underlying9, ⟨Tryz.underlying30, by kernel_rfl, fmTy⟩⟩
end Go.Proofs.YtmepaeahchiglaaGreatDoor
namespace Go.Proofs.YtmepaeahchiglaaGreatDoor
open Go.ChangeShapes Go.WideShapes Go.ChangeAt Go.RowKit

theorem histTy : HistTy Tryz.prog 29 := ⟨_, _, _, _, _, _, _, Tryz.underlying29, ⟨rfl, rfl, rfl⟩, ⟨by kernel_rfl, by kernel_rfl, by kernel_rfl, by kernel_rfl⟩,
  ⟨Tryz.underlying25, by kernel_rfl, ndTy⟩, ⟨Tryz.underlying26, by kernel_rfl, lawTy⟩, ⟨Tryz.underlying27, by kernel_rfl, Tryz.underlying144, by kernel_rfl, Tryz.underlying3⟩⟩
theorem projTy : ProjTy Tryz.prog 33 := ⟨_, _, _, _, _, _, _, _, _, _, _, Tryz.underlying33, ⟨rfl, rfl, rfl, rfl, rfl, rfl⟩, ⟨by kernel_rfl, by kernel_rfl, by kernel_rfl, by kernel_rfl, by kernel_rfl, by kernel_rfl, by kernel_rfl⟩,
  ⟨Tryz.underlying22, by kernel_rfl, Tryz.underlying9⟩, ⟨Tryz.underlying23, by kernel_rfl, namTy⟩, ⟨Tryz.underlying24, by kernel_rfl, mkTy⟩, histTy, ⟨Tryz.underlying30, by kernel_rfl, fmTy⟩, ⟨Tryz.underlying31, by kernel_rfl, enTy⟩⟩
end Go.Proofs.YtmepaeahchiglaaGreatDoor
