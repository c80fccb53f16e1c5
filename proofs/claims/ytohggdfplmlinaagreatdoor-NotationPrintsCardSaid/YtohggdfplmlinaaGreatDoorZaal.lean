/-
  layer 4: the statements' cases: small, made. Conditions: a case that can be read.
-/
import Derived.Test.YtohggdfplmlinaaGreatDoorZaak
import Derived.Test.YtohggdfplmlinaaGreatDoorZaaa
import Derived.Deep.Slices
import Derived.Deep.Fields
import Derived.Lib.SmallJoins
namespace Go.Proofs.YtohggdfplmlinaaGreatDoor
open Go.RowKit Go.Lib

/-- A case as a value. -/
abbrev caseV (A1 A2 A3 : Option Addr) (n1 c1 n2 c2 n3 c3 : Nat) : Value := .agg #[.slice A1 n1 c1, .slice A2 n2 c2, .slice A3 n3 c3]
def smallK (a b c : Nat) : Bool := decide (a ≤ 30 ∧ b ≤ 20 ∧ c ≤ 33 ∧ (c ≤ 8 ∨ b ≤ 2))
set_option maxRecDepth 20000 in
set_option maxHeartbeats 1000000 in
theorem small_c (A1 A2 A3 : Option Addr) (n1 c1 n2 c2 n3 c3 : Nat) (w : World) : Calls Tryz.prog 6 #[caseV A1 A2 A3 n1 c1 n2 c2 n3 c3] w fun e w' => e = .returned (.bool (smallK n1 n2 n3)) ∧ Below w.heap.size w w' := by
  obtain ⟨r, hr⟩ : ∃ r, smallK n1 n2 n3 = r := ⟨_, rfl⟩
  rw [hr]
  have HR := Lib.hid hr
  clear hr
  have hb : Below w.heap.size w (w.alloc (.cells #[.slice A1 n1 c1, .slice A2 n2 c2, .slice A3 n3 c3] 26)) := (Below.refl _ _).alloc (Nat.le_refl _) _
  have HB := Lib.hid hb
  clear hb
  go_enter Tryz.func6, Tryz.ntmps6
  go_wp2
  all_goals
    go_ret
    refine ⟨?_, HB.out⟩
    rw [← HR.out]
    unfold smallK
    simp
    try (first | omega | (rw [Bool.eq_iff_iff]; simp only [Bool.or_eq_true, Bool.and_eq_true, decide_eq_true_eq]; omega))
/-- A case that can be read, in blocks below B. -/
structure CaseM (w : World) (B : Nat) (A1 A2 A3 : Option Addr) (n1 c1 n2 c2 n3 c3 : Nat) (fs : List ByteArray) (xs : List Nam) (ms : List Mk) : Prop where
  hB : B ≤ w.heap.size
  r1 : ReadS w B A1 n1 fs
  r2 : Reads w B 3 A2 n2 (xs.flatMap namC)
  r3 : Reads w B 4 A3 n3 (ms.flatMap markC)
  l1 : n1 ≤ c1
  l2 : n2 ≤ c2 ∧ c2 ≤ maxLen
  l3 : n3 ≤ c3
  s1 : ∀ s ∈ fs, s.size ≤ maxLen
  s2 : ∀ x ∈ xs, ok32 x.2 ∧ x.1.size ≤ maxLen
  s3 : ∀ m ∈ ms, okMk m
theorem CaseM.below {w w' : World} {B : Nat} {A1 A2 A3 : Option Addr} {n1 c1 n2 c2 n3 c3 : Nat} {fs : List ByteArray} {xs : List Nam} {ms : List Mk} (h : CaseM w B A1 A2 A3 n1 c1 n2 c2 n3 c3 fs xs ms) (hb : Below B w w') : CaseM w' B A1 A2 A3 n1 c1 n2 c2 n3 c3 fs xs ms :=
  ⟨Nat.le_trans h.hB hb.size, Reads.below h.r1 hb, h.r2.below hb, h.r3.below hb, h.l1, h.l2, h.l3, h.s1, h.s2, h.s3⟩
def MadePost (w : World) (fs : List ByteArray) (xs : List Nam) (ms : List Mk) (e : Ending) (w' : World) : Prop :=
  Below w.heap.size w w' ∧ ((caseE fs ms = 0 ∧ ∃ g, e = .returned (.tuple #[wptr g, .int .i64 0]) ∧ NotN w' (NewB w w') g fs (addsL fs.length [] xs) ms 0) ∨ (caseE fs ms ≠ 0 ∧ e = .returned (.tuple #[.pointer none, .int .i64 (caseE fs ms)])))
theorem addsL_next {n : Nat} {L xs : List Nam} {k : Nat} (hk : k < xs.length) : addsL n L (xs.take (k + 1)) = addL n (addsL n L (xs.take k)) xs[k] := by
  unfold addsL
  rw [List.take_succ_eq_append_getElem hk, List.foldl_append]; rfl
set_option linter.unusedSimpArgs false in
set_option maxRecDepth 20000 in
set_option maxHeartbeats 2000000 in
theorem made_c {w : World} {B : Nat} {A1 A2 A3 : Option Addr} {n1 c1 n2 c2 n3 c3 : Nat} {fs : List ByteArray} {xs : List Nam} {ms : List Mk} (h : CaseM w B A1 A2 A3 n1 c1 n2 c2 n3 c3 fs xs ms) :
    Calls Tryz.prog 8 #[caseV A1 A2 A3 n1 c1 n2 c2 n3 c3] w (MadePost w fs xs ms) := by
  have hB := h.hB
  have hxl := h.r2.len_of (fun _ => rfl) (by decide)
  subst hxl
  have hlx := h.l2
  unfold maxLen at hlx
  obtain ⟨W1, hW1⟩ : ∃ W1, w.alloc (.cells #[.slice A1 n1 c1, .slice A2 xs.length c2, .slice A3 n3 c3] 26) = W1 := ⟨_, rfl⟩
  have hz : W1.heap.size = w.heap.size + 1 := by rw [← hW1]; simp
  have hb1 : Below w.heap.size w W1 := by rw [← hW1]; exact (Below.refl _ _).alloc (Nat.le_refl _) _
  have kb : Blk W1 w.heap.size 26 #[.slice A1 n1 c1, .slice A2 xs.length c2, .slice A3 n3 c3] := by rw [← hW1]; exact Blk.new w _ _
  have hC := h.below (hb1.mono hB)
  have hI := newI_any A1 n1 c1 B fs W1 hC.r1 hC.hB hC.l1 hC.s1
  have k0 := kb.cell 0
  simp only [List.getElem?_toArray, List.getElem?_cons_zero] at k0
  have HI := Lib.hid hI; have HC := Lib.hid hC; have KB := Lib.hid kb; have HB1 := Lib.hid hb1
  clear hI hC h kb hb1
  go_enter Tryz.func8, Tryz.ntmps8
  go_wp2_with (rw [hW1])
  refine HI.out.mono ?_
  rintro e w2 ⟨hb2, ⟨hE, gi, rfl, hi⟩ | ⟨hE, rfl⟩⟩
  · have hi' := hi.mono (T := fun b => w.heap.size + 1 ≤ b ∧ b < w2.heap.size) (fun b hb => ⟨by have := hb.1; omega, hb.2⟩)
    have HI2 := Lib.hid hi'; have HB2 := Lib.hid hb2; have HE := Lib.hid hE
    clear hi hi' hb2 hE k0 hW1
    go_wp2
    go_loopw [6] (fun i wr => ∃ k : Nat, k ≤ xs.length ∧ i = .int .i64 k ∧ InvM wr (fun b => w.heap.size + 1 ≤ b ∧ b < wr.heap.size) gi fs (addsL fs.length [] (xs.take k)) ∧ Below W1.heap.size W1 wr) (fun i _ => xs.length - (RowKit.intOf i).toNat)
    case atStart => exact ⟨0, by omega, rfl, HI2.out, HB2.out⟩
    case round =>
      obtain ⟨k, hk, rfl, hi, hb⟩ := hrel
      have hbl := KB.out.lt
      have kb := KB.out.below hb hbl
      have k1 := kb.cell 1; have k2 := kb.cell 2
      simp only [List.getElem?_toArray, List.getElem?_cons_zero, List.getElem?_cons_succ] at k1 k2
      have hC := HC.out.below (hb.mono HC.out.hB)
      have hsz := hb.size
      by_cases hlt : k < xs.length
      · have hkI : (k : Int) < (xs.length : Int) := by omega
        obtain ⟨ad, rfl, had, e0, e1, e2⟩ := nam_cells hC.r2 hlt
        have hnx := addsL_next (n := fs.length) (L := []) hlt
        obtain ⟨h32, hsy⟩ := hC.s2 _ (List.getElem_mem hlt)
        generalize xs[k] = x at *
        have hadd := add_any (w := wr.drew) x.1 x.2 (show InvM wr.drew (fun b => w.heap.size + 1 ≤ b ∧ b < wr.heap.size) gi fs _ from hi) (fun b hb => hb.2) h32 hsy
        have HADD := Lib.hid hadd; have HB := Lib.hid hb; have HNX := Lib.hid hnx
        clear kb hC hi hb hadd hnx h32 hsy
        go_wp2
        refine region_tail 13 (by kernel_rfl) (by kernel_rfl) ?_
        simp only [List.take_succ_cons, List.take_zero, List.drop_succ_cons, List.drop_zero]
        iterate 13 still_step
        refine wpStill_nil ?_
        go_wp2_with fail
        refine HADD.out.mono ?_
        rintro e w3 ⟨rfl, hi3, hc3⟩
        have hs3 : wr.heap.size ≤ w3.heap.size := hc3.size
        have hb3 : Below W1.heap.size W1 w3 := HB.out.drew.trans (hc3.below (B := W1.heap.size) (fun i hi => by have := hi.1; omega) hsz)
        rw [← HNX.out] at hi3
        have hi3' := hi3.mono (T := fun b => w.heap.size + 1 ≤ b ∧ b < w3.heap.size) (fun b hb => by
          rcases hb with hb | hb
          · exact ⟨hb.1, by have := hb.2; omega⟩
          · exact ⟨by have : wr.heap.size ≤ b := hb.1; omega, hb.2⟩)
        have HI3 := Lib.hid hi3'; have HB3 := Lib.hid hb3
        clear hi3 hc3 hb3 hi3' HADD HB HNX e0 e1 e2 k1 k2
        go_wp2
        go_roundw
        case rel => exact ⟨k + 1, by omega, by go_num, HI3.out, HB3.out⟩
        case measure => simp [RowKit.intOf]; omega
      · obtain rfl : k = xs.length := by omega
        rw [List.take_length] at hi
        have hnew := newN_any A3 n3 c3 B ms hi hC.r3 hC.hB hC.l3 hC.s3
        have HN := Lib.hid hnew; have HB := Lib.hid hb
        clear kb hC hi hb hnew
        go_wp2_with fail
        refine HN.out.mono ?_
        rintro e w3 ⟨hb3, ⟨hK, g, rfl, hn⟩ | ⟨hK, rfl⟩⟩
        · have hfin : MadePost w fs xs ms (.returned (.tuple #[wptr g, .int .i64 0])) w3 := by
            have hb03 := HB1.out.trans ((HB.out.trans (hb3.mono HB.out.size)).mono HB1.out.size)
            refine ⟨hb03, .inl ⟨?_, g, rfl, hn.mono (fun b hb => ⟨by have := hb.1; omega, hb.2⟩)⟩⟩
            unfold caseE
            rw [if_pos HE.out]; exact hK
          have HFIN := Lib.hid hfin
          clear hfin hn hb3 hK
          go_wp2
          go_ret2
          exact HFIN.out
        · have hfin : MadePost w fs xs ms (.returned (.tuple #[.pointer none, .int .i64 (notK fs.length ms)])) w3 := by
            have hb03 := HB1.out.trans ((HB.out.trans (hb3.mono HB.out.size)).mono HB1.out.size)
            have hce : caseE fs ms = notK fs.length ms := by unfold caseE; rw [if_pos HE.out]
            exact ⟨hb03, .inr ⟨by rw [hce]; exact hK, by rw [hce]⟩⟩
          have HFIN := Lib.hid hfin
          clear hfin hb3 hK
          go_wp2
          go_ret2
          exact HFIN.out
  · have e1 : (newE fs != 0) = true := by rw [bne_iff_ne]; exact hE
    have hfin : MadePost w fs xs ms (.returned (.tuple #[.pointer none, .int .i64 (newE fs)])) w2 := by
      have hce : caseE fs ms = newE fs := by unfold caseE; rw [if_neg hE]
      exact ⟨HB1.out.trans (hb2.mono HB1.out.size), .inr ⟨by rw [hce]; exact hE, by rw [hce]⟩⟩
    have HFIN := Lib.hid hfin
    clear hfin hb2 hE
    go_wp2
    go_ret2
    exact HFIN.out
end Go.Proofs.YtohggdfplmlinaaGreatDoor
namespace Go.Proofs.YtohggdfplmlinaaGreatDoor
open Go.ChangeShapes Go.WideShapes Go.ChangeAt Go.RowKit

theorem u32_of_wf {x : Int} (h : (Lit.int .u32 x).wf = true) : ∃ n : Nat, x = n ∧ is32 n := by
  simp only [Lit.wf, Bool.and_eq_true, decide_eq_true_eq] at h
  have h1 : IntKind.u32.min = 0 := rfl
  have h2 : IntKind.u32.max = 4294967295 := rfl
  rw [h1, h2] at h
  exact ⟨x.toNat, by omega, by unfold is32; omega⟩
section
variable {H : Type} {enc : TypeId × Value → H} {P : Program} {W : World}
def SndTy (P : Program) (t : TypeId) : Prop := ∃ g0 g1 : Field, P.underlying t = some (.struct #[g0, g1]) ∧ (g0.offset = 0 ∧ g1.offset = 1) ∧ (P.cellsOf g0.type = 1 ∧ P.cellsOf g1.type = 1 ∧ P.cellsOf t = 2) ∧ P.underlying g0.type = some (.int .u32) ∧ P.underlying g1.type = some (.int .u32)
theorem open_snd_t {t : TypeId} (T : SndTy P t) {fuel : Nat} {cs : List Value} {y : DataW H × List MemPlace} (h : DataW.trod enc P W 0 (fun _ => true) true fuel t cs = some y) : ∃ s : Snd, cs = sndC s ∧ ok32 s := by
  obtain ⟨g0, g1, hu, ⟨o0, o1⟩, ⟨c0, c1, c2⟩, u0, u1⟩ := T
  obtain ⟨xs, n, _, _, hl, hlen, hf⟩ := DataW.trod_struct hu h
  rw [c2] at hl
  match xs, hlen, cs, hl with
  | [y0, y1], _, [v0, v1], _ =>
    have k0 := hf 0 g0 rfl
    have k1 := hf 1 g1 rfl
    simp [o0, o1, c0, c1] at k0 k1
    obtain ⟨z0, e0, _, w0⟩ := DataW.trod_int u0 k0
    obtain ⟨z1, e1, _, w1⟩ := DataW.trod_int u1 k1
    simp only [List.cons.injEq, and_true] at e0 e1
    subst e0 e1
    obtain ⟨m0, rfl, l0⟩ := u32_of_wf w0
    obtain ⟨m1, rfl, l1⟩ := u32_of_wf w1
    exact ⟨(m0, m1), rfl, l0, l1⟩
/-- The rows of a slice, read. -/
theorem reads_rows {w : World} {a : Addr} {k len : Nat} (hk : 0 < k) (z : Nat → List Value) (hz : ∀ i, (z i).length = k) (h : ∀ i, i < len → ∀ j u, (z i)[j]? = some u → w.cell? (a.add (i * k + j)) = some u) : Reads w w.heap.size k (some a) len ((List.range len).flatMap z) := by
  refine ⟨by rw [flatMap_len z k hz]; simp, fun hn => ⟨a, rfl, ?_, fun j u hu => ?_⟩⟩
  · have h0 : 0 < (z 0).length := by rw [hz]; exact hk
    have := lt_cell (h 0 hn 0 _ (List.getElem?_eq_getElem h0))
    rwa [block_of_add] at this
  · have hj : j < len * k := by
      have := (List.getElem?_eq_some_iff.1 hu).1
      rw [flatMap_len z k hz] at this; simpa using this
    rw [flatMap_get z k hz _ j (by simpa using hj)] at hu
    have hd : j / k < len := Nat.div_lt_of_lt_mul (by rw [Nat.mul_comm]; exact hj)
    have he : (List.range len)[j / k]! = j / k := by rw [getElem!_pos (List.range len) (j / k) (by simpa using hd)]; simp
    rw [he] at hu
    have hm : j % k < (z (j / k)).length := by rw [hz]; exact Nat.mod_lt _ hk
    rw [getElem!_pos (z (j / k)) (j % k) hm, ← List.getElem?_eq_getElem] at hu
    have := h (j / k) hd (j % k) u hu
    rwa [show j / k * k + j % k = j by rw [Nat.mul_comm]; exact Nat.div_add_mod j k] at this
theorem open_rows_t {α : Type} [Inhabited α] {t e : TypeId} {k : Nat} (hk : 0 < k) (f : α → List Value) (hf : ∀ x, (f x).length = k) (ok : α → Prop) (ht : P.underlying t = some (.slice e)) (ce : P.cellsOf e = k)
    (ho : ∀ (n : Nat) (cs : List Value) (y : DataW H × List MemPlace), DataW.trod enc P W 0 (fun _ => true) true n e cs = some y → ∃ x : α, cs = f x ∧ ok x) {fuel : Nat} {cs : List Value} {x : DataW H × List MemPlace}
    (h : DataW.trod enc P W 0 (fun _ => true) true fuel t cs = some x) :
    ∃ A n c, ∃ rs : List α, cs = [.slice A n c] ∧ rs.length = n ∧ Reads W W.heap.size k A n (rs.flatMap f) ∧ (∀ s ∈ rs, ok s) ∧ n ≤ c ∧ c ≤ maxLen := by
  rcases Go.Deep.open_slice ht h with ⟨rfl, _⟩ | ⟨a, len, cap, m, n, D, Pl, rfl, hb, hl, hm, hmm, rfl, hx⟩
  · exact ⟨none, 0, 0, [], rfl, rfl, Reads.none_, (fun s hs => by cases hs), by omega, by unfold maxLen; omega⟩
  · simp only [if_true] at hmm
    subst hmm
    have each : ∀ i, i < m → ∃ q : α, ok q ∧ ∀ j u, (f q)[j]? = some u → W.cell? (a.add (i * k + j)) = some u := by
      intro i hi
      obtain ⟨cs', h1, h2⟩ := hx i hi
      rw [ce] at h1
      obtain ⟨_, hlen, hcell⟩ := World.cells?_some h1
      obtain ⟨q, rfl, hq⟩ := ho _ _ _ h2
      refine ⟨q, hq, fun j u hu => ?_⟩
      have hj : j < k := by have := (List.getElem?_eq_some_iff.1 hu).1; omega
      have := hcell j hj
      rw [Go.Deep.add_add] at this
      rw [this]; exact hu
    obtain ⟨q, hq⟩ := Go.Deep.choose_lt each
    refine ⟨some a, len, m, (List.range len).map q, rfl, by simp, ?_, fun s hs => ?_, hl, hm⟩
    · rw [List.flatMap_map]
      exact reads_rows hk (fun i => f (q i)) (fun i => hf _) fun i hi => (hq i (by omega)).2
    · obtain ⟨i, hi, rfl⟩ := List.mem_map.1 hs
      exact (hq i (by have := List.mem_range.1 hi; omega)).1
def NamTy (P : Program) (t : TypeId) : Prop := ∃ f0 f1 : Field, P.underlying t = some (.struct #[f0, f1]) ∧ (f0.offset = 0 ∧ f1.offset = 1) ∧ (P.cellsOf f0.type = 1 ∧ P.cellsOf f1.type = 2 ∧ P.cellsOf t = 3) ∧ P.underlying f0.type = some .string ∧ SndTy P f1.type
theorem open_nam_t {t : TypeId} (T : NamTy P t) {fuel : Nat} {cs : List Value} {y : DataW H × List MemPlace} (h : DataW.trod enc P W 0 (fun _ => true) true fuel t cs = some y) : ∃ x : Nam, cs = namC x ∧ ok32 x.2 ∧ x.1.size ≤ maxLen := by
  obtain ⟨f0, f1, hu, ⟨o0, o1⟩, ⟨c0, c1, c2⟩, u0, u1⟩ := T
  obtain ⟨xs, n, _, _, hl, hlen, hf⟩ := DataW.trod_struct hu h
  rw [c2] at hl
  match xs, hlen, cs, hl with
  | [y0, y1], _, [v0, v1, v2], _ =>
    have k0 := hf 0 f0 rfl
    have k1 := hf 1 f1 rfl
    simp [o0, o1, c0, c1] at k0 k1
    obtain ⟨nm, e0, _, hnm⟩ := DataW.trod_string u0 k0
    obtain ⟨s, e1, hs⟩ := open_snd_t u1 k1
    simp only [sndC, List.cons.injEq, and_true] at e0 e1
    obtain ⟨rfl, rfl⟩ := e1
    subst e0
    exact ⟨(nm, s), rfl, hs, hnm⟩
def MkTy (P : Program) (t : TypeId) : Prop := ∃ f0 f1 f2 : Field, P.underlying t = some (.struct #[f0, f1, f2]) ∧ (f0.offset = 0 ∧ f1.offset = 1 ∧ f2.offset = 2) ∧ (P.cellsOf f0.type = 1 ∧ P.cellsOf f1.type = 1 ∧ P.cellsOf f2.type = 2 ∧ P.cellsOf t = 4) ∧ P.underlying f0.type = some .string ∧ P.underlying f1.type = some (.int .u32) ∧ SndTy P f2.type
theorem open_mk_t {t : TypeId} (T : MkTy P t) {fuel : Nat} {cs : List Value} {y : DataW H × List MemPlace} (h : DataW.trod enc P W 0 (fun _ => true) true fuel t cs = some y) : ∃ x : Mk, cs = markC x ∧ okMk x := by
  obtain ⟨f0, f1, f2, hu, ⟨o0, o1, o2⟩, ⟨c0, c1, c2, c3⟩, u0, u1, u2⟩ := T
  obtain ⟨xs, n, _, _, hl, hlen, hf⟩ := DataW.trod_struct hu h
  rw [c3] at hl
  match xs, hlen, cs, hl with
  | [y0, y1, y2], _, [v0, v1, v2, v3], _ =>
    have k0 := hf 0 f0 rfl
    have k1 := hf 1 f1 rfl
    have k2 := hf 2 f2 rfl
    simp [o0, o1, o2, c0, c1, c2] at k0 k1 k2
    obtain ⟨nm, e0, _, hnm⟩ := DataW.trod_string u0 k0
    obtain ⟨z1, e1, _, w1⟩ := DataW.trod_int u1 k1
    obtain ⟨s, e2, hs⟩ := open_snd_t u2 k2
    simp only [sndC, List.cons.injEq, and_true] at e0 e1 e2
    obtain ⟨rfl, rfl⟩ := e2
    subst e0 e1
    obtain ⟨m1, rfl, l1⟩ := u32_of_wf w1
    exact ⟨⟨nm, m1, s⟩, rfl, l1, hs, hnm⟩
theorem open_str_t {t : TypeId} (T : P.underlying t = some .string) {fuel : Nat} {cs : List Value} {y : DataW H × List MemPlace} (h : DataW.trod enc P W 0 (fun _ => true) true fuel t cs = some y) : ∃ x : ByteArray, cs = strC x ∧ x.size ≤ maxLen := by
  obtain ⟨nm, e0, _, hnm⟩ := DataW.trod_string T h
  exact ⟨nm, e0, hnm⟩
/-- A sound, a named sound by value. -/
theorem open_snd {t : TypeId} (T : SndTy P t) {b0 : Nat} {v : Value} {d : DataW H} {ps : List MemPlace} (hval : Value.okWide P W .any b0 t v) (h : DataW.Trod enc P W 0 (fun _ => true) true t v d ps) : ∃ s : Snd, v = sndV s ∧ ok32 s := by
  have T' := T
  obtain ⟨g0, g1, hu, -⟩ := T'
  obtain ⟨cs, rfl, _⟩ := okWide_struct hu hval
  obtain ⟨fuel, hf⟩ := h
  obtain ⟨s, h1, h2⟩ := open_snd_t T hf
  refine ⟨s, ?_, h2⟩
  have e : cs.toList = sndC s := by simpa [Value.cells] using h1
  have e2 : cs = (sndC s).toArray := by rw [← e]
  rw [e2]
theorem open_nam {t : TypeId} (T : NamTy P t) {b0 : Nat} {v : Value} {d : DataW H} {ps : List MemPlace} (hval : Value.okWide P W .any b0 t v) (h : DataW.Trod enc P W 0 (fun _ => true) true t v d ps) : ∃ x : Nam, v = namV x ∧ ok32 x.2 ∧ x.1.size ≤ maxLen := by
  have T' := T
  obtain ⟨g0, g1, hu, -⟩ := T'
  obtain ⟨cs, rfl, _⟩ := okWide_struct hu hval
  obtain ⟨fuel, hf⟩ := h
  obtain ⟨s, h1, h2⟩ := open_nam_t T hf
  refine ⟨s, ?_, h2⟩
  have e : cs.toList = namC s := by simpa [Value.cells] using h1
  have e2 : cs = (namC s).toArray := by rw [← e]
  rw [e2]
/-- A slice of such, by value. -/
theorem open_rows_v {α : Type} [Inhabited α] {k : Nat} (hk : 0 < k) (f : α → List Value) (hf : ∀ x, (f x).length = k) (ok : α → Prop) {t e : TypeId} (ht : P.underlying t = some (.slice e)) (ce : P.cellsOf e = k)
    (each : ∀ (n : Nat) (cs : List Value) (y : DataW H × List MemPlace), DataW.trod enc P W 0 (fun _ => true) true n e cs = some y → ∃ x : α, cs = f x ∧ ok x) {b0 : Nat} {v : Value} {d : DataW H} {ps : List MemPlace}
    (hval : Value.okWide P W .any b0 t v) (h : DataW.Trod enc P W 0 (fun _ => true) true t v d ps) :
    ∃ A n c, ∃ rs : List α, v = .slice A n c ∧ Reads W W.heap.size k A n (rs.flatMap f) ∧ (∀ x ∈ rs, ok x) ∧ n ≤ c ∧ c ≤ maxLen := by
  obtain ⟨A, n, c, rfl⟩ := okWide_slice ht hval
  obtain ⟨fuel, hg⟩ := h
  obtain ⟨A', n', c', rs, e1, h0, h1, h2, h3⟩ := open_rows_t hk f hf ok ht ce each hg
  simp [Value.cells] at e1
  obtain ⟨rfl, rfl, rfl⟩ := e1
  subst h0
  exact ⟨A, _, c, rs, rfl, h1, h2, h3⟩
end
set_option maxRecDepth 100000 in
theorem sndTy : SndTy Tryz.prog 30 := ⟨_, _, Tryz.underlying30, ⟨rfl, rfl⟩, ⟨by kernel_rfl, by kernel_rfl, by kernel_rfl⟩, Tryz.underlying28, Tryz.underlying28⟩
set_option maxRecDepth 100000 in
theorem namTy : NamTy Tryz.prog 60 := ⟨_, _, Tryz.underlying60, ⟨rfl, rfl⟩, ⟨by kernel_rfl, by kernel_rfl, by kernel_rfl⟩, Tryz.underlying9, sndTy⟩
set_option maxRecDepth 100000 in
theorem mkTy : MkTy Tryz.prog 83 := ⟨_, _, _, Tryz.underlying83, ⟨rfl, rfl, rfl⟩, ⟨by kernel_rfl, by kernel_rfl, by kernel_rfl, by kernel_rfl⟩, Tryz.underlying9, Tryz.underlying28, sndTy⟩
theorem flat_strC (l : List ByteArray) : l.flatMap strC = l.map Value.string := by
  induction l with
  | nil => rfl
  | cons a l ih => rw [List.flatMap_cons, List.map_cons, ih]; rfl
section
variable {H : Type} {enc : TypeId × Value → H} {W : World}
set_option maxRecDepth 100000 in
theorem open_word {b0 : Nat} {v : Value} {d : DataW H} {ps : List MemPlace} (hval : Value.okWide Tryz.prog W .any b0 27 v) (h : DataW.Trod enc Tryz.prog W 0 (fun _ => true) true 27 v d ps) :
    ∃ A n c, ∃ rs : List Snd, v = .slice A n c ∧ Reads W W.heap.size 2 A n (rs.flatMap sndC) ∧ (∀ s ∈ rs, ok32 s) ∧ n ≤ c ∧ c ≤ maxLen :=
  open_rows_v (k := 2) (by decide) sndC (fun _ => rfl) ok32 Tryz.underlying27 (by kernel_rfl) (fun n cs y hh => open_snd_t sndTy hh) hval h
set_option maxRecDepth 100000 in
theorem open_case {b0 : Nat} {v : Value} {d : DataW H} {ps : List MemPlace} (hval : Value.okWide Tryz.prog W .any b0 26 v) (h : DataW.Trod enc Tryz.prog W 0 (fun _ => true) true 26 v d ps) :
    ∃ A1 A2 A3 n1 c1 n2 c2 n3 c3 fs xs ms, v = caseV A1 A2 A3 n1 c1 n2 c2 n3 c3 ∧ CaseM W W.heap.size A1 A2 A3 n1 c1 n2 c2 n3 c3 fs xs ms := by
  obtain ⟨v0, v1, v2, y0, y1, y2, n, rfl, rfl, rfl, h0, h1, h2⟩ := Go.Joins.open_agg3 Tryz.underlying26 (by kernel_rfl) (by kernel_rfl) hval h
  obtain ⟨A1, n1, c1, fs, e1, z1, r1, o1, l1, m1⟩ := open_rows_t (k := 1) (by decide) strC (fun _ => rfl) (fun s => s.size ≤ maxLen) Tryz.underlying22 (by kernel_rfl) (fun n cs y hh => open_str_t Tryz.underlying9 hh) h0
  obtain ⟨A2, n2, c2, xs, e2, z2, r2, o2, l2, m2⟩ := open_rows_t (k := 3) (by decide) namC (fun _ => rfl) (fun x => ok32 x.2 ∧ x.1.size ≤ maxLen) Tryz.underlying23 (by kernel_rfl) (fun n cs y hh => open_nam_t namTy hh) h1
  obtain ⟨A3, n3, c3, ms, e3, z3, r3, o3, l3, m3⟩ := open_rows_t (k := 4) (by decide) markC (fun _ => rfl) okMk Tryz.underlying24 (by kernel_rfl) (fun n cs y hh => open_mk_t mkTy hh) h2
  simp only [List.cons.injEq, and_true] at e1 e2 e3
  subst e1 e2 e3 z1 z2 z3
  rw [flat_strC] at r1
  exact ⟨A1, A2, A3, _, c1, _, c2, _, c3, fs, xs, ms, rfl, Nat.le_refl _, r1, r2, r3, l1, ⟨l2, m2⟩, l3, o1, o2, o3⟩
end
end Go.Proofs.YtohggdfplmlinaaGreatDoor
