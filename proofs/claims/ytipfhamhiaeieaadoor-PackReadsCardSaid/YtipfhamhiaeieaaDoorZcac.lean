/-
  layer 43: the writer's number, count, sound, flag. Conditions: numbers of 32 bits; a list of the reach.
-/
import Derived.Test.YtipfhamhiaeieaaDoorZcab
import Derived.Test.YtipfhamhiaeieaaDoorZcaa
import Derived.Deep.Slices
import Derived.Deep.Fields
import Derived.Lib.SmallJoins
import Derived.Lib.AppendStr
namespace Go.Proofs.YtipfhamhiaeieaaDoor
open Go.RowKit Go.Lib

theorem numK_len : ∀ (k n : Nat), (numK k n).length ≤ k
  | 0, _ => Nat.le_refl _
  | k + 1, n => by
    unfold numK; split
    · simp
    · simpa using numK_len k (n / 128)
theorem numB_len (n : Nat) : (numB n).length ≤ 5 := numK_len 5 n
abbrev wptr (g : Nat) : Value := .pointer (some ⟨g, 0, none⟩)
set_option maxRecDepth 20000 in
set_option maxHeartbeats 4000000 in
theorem num_any (w : World) (base g n : Nat) (xs : List Nat) (h : Wr w base g xs) (hn : n < 4294967296) (hx : xs.length + 5 ≤ CAP) :
    Calls Tryd.prog 63 #[wptr g, .int .u32 n] w fun e w' => e = .returned (.tuple #[]) ∧ Wr w' base g (xs ++ numB n) ∧ WStep g w w' := by
  obtain ⟨i0, hi, hz0, hz1, hz2⟩ := info_parts (show (Tryd.prog.info? 5).map (fun i => (i.zero, i.size, i.bytes)) = some (some (.int .u8 0), 1, 1) by kernel_rfl)
  unfold CAP at hx
  have HH := Lib.hid h
  clear h
  go_enter Tryd.func63, Tryd.ntmps63
  go_wp2
  go_loopw [1] (fun i wr => ∃ m j : Nat, ∃ zs : List Nat, i = .int .u32 m ∧ m < 4294967296 ∧ zs.length + j = 4 ∧ m < 128 ^ (j + 1) ∧ zs ++ numK (j + 1) m = numB n ∧ Wr wr base g (xs ++ zs) ∧ WStep g w wr) (fun i _ => (RowKit.intOf i).toNat)
  case atStart => exact ⟨n, 4, [], rfl, hn, rfl, Nat.lt_of_lt_of_le hn (by decide), rfl, by rw [List.append_nil]; exact HH.out, WStep.refl _ _⟩
  case round =>
    obtain ⟨m, j, zs, rfl, hm, hzl, hmj, hzs, hwr, hst⟩ := hrel
    have hlen : (xs ++ zs).length ≤ 140737488351231 := by rw [List.length_append]; omega
    obtain ⟨v, b1, b2, b3⟩ := id hwr
    have hc := b1.cell 0
    have hf := b1.frozen 0
    simp only [List.getElem?_toArray, List.getElem?_cons_zero] at hc
    have hgl := b1.lt
    have hne : v.ownBlock ≠ some g := own_blk_ne b3 b1 (by decide)
    by_cases hlt : 128 ≤ m
    · have hltI : (128 : Int) ≤ m := by omega
      have hl7 := low7 (n := m)
      have hrn := reads_new wr 5 [bv (m % 128 + 128)]
      have HZ := Lib.hid hzs; have HWR := Lib.hid hwr; have HST := Lib.hid hst; have HC := Lib.hid hc; have HB1 := Lib.hid b1; have HB3 := Lib.hid b3; have HRN := Lib.hid hrn; have HNE := Lib.hid hne; have HMJ := Lib.hid hmj
      clear hzs hwr hst b1 b3 hrn hne hmj
      go_wp2_with (at_builtin; refine wpList_append_any _ rfl _ _ 62 rfl base 5 i0 (.int .u8 0) 1 1 Tryd.underlying62 hi hz0 hz1 hz2 rfl (by decide) _ _ _ rfl (HB3.out.alloc _) _ _ _ _ [bv (m % 128 + 128)] rfl HRN.out (by simp [Value.oneCell']) (by unfold maxLen; omega) (by omega) (by simp; omega) ?_; intro v' w3 hown' hgrow hx'; have hb3 : Blk w3 g 62 #[v] := (HB1.out.alloc _).grown hgrow (fun e => HNE.out e.symm); have hc3 : w3.cell? ⟨g, 0, none⟩ = some v := (by simpa using hb3.cell 0); have hf3 := hb3.frozen 0; have hres := wr_one (ys := [m % 128 + 128]) HWR.out HC.out hown' hgrow hx'; have HRES := Lib.hid hres; clear hres hb3 hx' hgrow; obtain ⟨A', c', rfl, _, _⟩ := ownsRow_form hown'; have HOWN := Lib.hid hown'; clear hown')
      clear hl7
      go_roundw
      case rel =>
        cases j with
        | zero => have := HMJ.out; rw [Nat.zero_add, Nat.pow_one] at this; omega
        | succ j =>
          have hr := HRES.out
          rw [List.length_append] at hr
          have hz := HZ.out
          rw [numB_step (by omega)] at hz
          refine ⟨m / 128, j, zs ++ [m % 128 + 128], by rfl, by omega, by rw [List.length_append, List.length_singleton]; omega, ?_, by rw [List.append_assoc]; exact hz, ?_, HST.out.trans hr.2⟩
          · have := HMJ.out; rw [Nat.pow_succ] at this; omega
          · rw [← List.append_assoc]; exact hr.1
      case measure => simp [RowKit.intOf]; omega
    · have hltI : ¬ (128 : Int) ≤ m := by omega
      have hw8 : (m : Int) % 256 = m := by omega
      have hrn := reads_new wr 5 [bv m]
      have HZ := Lib.hid hzs; have HWR := Lib.hid hwr; have HST := Lib.hid hst; have HC := Lib.hid hc; have HB1 := Lib.hid b1; have HB3 := Lib.hid b3; have HRN := Lib.hid hrn; have HNE := Lib.hid hne; have HMJ := Lib.hid hmj
      clear hzs hwr hst b1 b3 hrn hne hmj
      go_wp2_with (at_builtin; refine wpList_append_any _ rfl _ _ 62 rfl base 5 i0 (.int .u8 0) 1 1 Tryd.underlying62 hi hz0 hz1 hz2 rfl (by decide) _ _ _ rfl (HB3.out.alloc _) _ _ _ _ [bv m] rfl HRN.out (by simp [Value.oneCell']) (by unfold maxLen; omega) (by omega) (by simp; omega) ?_; intro v' w3 hown' hgrow hx'; have hb3 : Blk w3 g 62 #[v] := (HB1.out.alloc _).grown hgrow (fun e => HNE.out e.symm); have hc3 : w3.cell? ⟨g, 0, none⟩ = some v := (by simpa using hb3.cell 0); have hf3 := hb3.frozen 0; have hres := wr_one (ys := [m]) HWR.out HC.out hown' hgrow hx'; have HRES := Lib.hid hres; clear hres hb3 hx' hgrow; obtain ⟨A', c', rfl, _, _⟩ := ownsRow_form hown'; have HOWN := Lib.hid hown'; clear hown')
      go_end0
      have hr := HRES.out
      rw [List.length_append] at hr
      have hz := HZ.out
      rw [numB_last (by omega)] at hz
      exact ⟨rfl, by rw [← hz, ← List.append_assoc]; exact hr.1, HST.out.trans hr.2⟩
theorem count_any (w : World) (base g : Nat) (n : Nat) (xs : List Nat) (h : Wr w base g xs) (hn : n < 4294967296) (hx : xs.length + 5 ≤ CAP) :
    Calls Tryd.prog 62 #[wptr g, .int .i64 n] w fun e w' => e = .returned (.tuple #[]) ∧ Wr w' base g (xs ++ numB n) ∧ WStep g w w' := by
  have hc := num_any w base g n xs h hn hx
  have hw : (n : Int) % 4294967296 = n := by omega
  clear h hx
  go_enter Tryd.func62, Tryd.ntmps62
  go_wp2_with fail
  refine hc.mono ?_
  rintro e w' ⟨rfl, h1, h2⟩
  go_wp2
  go_end0
  exact ⟨rfl, h1, h2⟩
theorem sndB_len (s : Snd) : (sndB s).length ≤ 10 := by
  show (numB s.1 ++ numB s.2).length ≤ 10
  rw [List.length_append]
  have := numB_len s.1
  have := numB_len s.2
  omega
abbrev sndC (s : Snd) : List Value := [.int .u32 s.1, .int .u32 s.2]
abbrev sndV (s : Snd) : Value := .agg #[.int .u32 s.1, .int .u32 s.2]
set_option maxRecDepth 20000 in
theorem sound_any (w : World) (base g : Nat) (s : Snd) (xs : List Nat) (h : Wr w base g xs) (hs : ok32 s) (hx : xs.length + 10 ≤ CAP) :
    Calls Tryd.prog 36 #[wptr g, sndV s] w fun e w' => e = .returned (.tuple #[]) ∧ Wr w' base g (xs ++ sndB s) ∧ WStep g w w' := by
  obtain ⟨a, b⟩ := s
  obtain ⟨ha, hb⟩ := hs
  have hB := Blk.new w 24 #[.int .u32 a, .int .u32 b]
  have h1 := h.alloc (.cells #[.int .u32 a, .int .u32 b] 24)
  have hst := (WStep.refl g w).alloc h.lt (.cells #[.int .u32 a, .int .u32 b] 24)
  have hgl := h.lt
  show Calls _ _ _ _ fun e w' => e = .returned (.tuple #[]) ∧ Wr w' base g (xs ++ (numB a ++ numB b)) ∧ WStep g w w'
  have hl := numB_len a
  have hc1 := num_any _ base g a xs h1 ha (by omega)
  have hc2 := fun W (hW : Wr W base g (xs ++ numB a)) => num_any W base g b (xs ++ numB a) hW hb (by rw [List.length_append]; omega)
  have HB := Lib.hid hB; have H1 := Lib.hid h1; have HST := Lib.hid hst; have HC2 := Lib.hid hc2
  clear hB h1 hst hc2 h hx
  go_enter Tryd.func36, Tryd.ntmps36
  go_wp2_with fail
  refine hc1.mono ?_
  rintro e w1 ⟨rfl, h2, h3⟩
  have hb1 := h3.blk H1.out HB.out (by decide) (by omega)
  have hc := hb1.cell 1
  simp only [List.getElem?_toArray, List.getElem?_cons_zero, List.getElem?_cons_succ] at hc
  have H2 := Lib.hid h2; have H3 := Lib.hid h3
  clear h2 h3 hb1
  go_wp2_with fail
  refine (HC2.out _ H2.out).mono ?_
  rintro e w2 ⟨rfl, h4, h5⟩
  go_wp2
  go_end0
  exact ⟨rfl, by rw [← List.append_assoc]; exact h4, (HST.out.trans H3.out).trans h5⟩
def flagB (b : Bool) : List Nat := numB (if b then 1 else 0)
theorem flag_any (w : World) (base g : Nat) (b : Bool) (xs : List Nat) (h : Wr w base g xs) (hx : xs.length + 5 ≤ CAP) :
    Calls Tryd.prog 93 #[wptr g, .bool b] w fun e w' => e = .returned (.tuple #[]) ∧ Wr w' base g (xs ++ flagB b) ∧ WStep g w w' := by
  cases b
  · have hc := count_any w base g 0 xs h (by decide) hx
    clear h hx
    go_enter Tryd.func93, Tryd.ntmps93
    go_wp2_with fail
    refine hc.mono ?_
    rintro e w' ⟨rfl, h1, h2⟩
    go_wp2
    go_end0
    exact ⟨rfl, h1, h2⟩
  · have hc := count_any w base g 1 xs h (by decide) hx
    clear h hx
    go_enter Tryd.func93, Tryd.ntmps93
    go_wp2_with fail
    refine hc.mono ?_
    rintro e w' ⟨rfl, h1, h2⟩
    go_wp2
    go_end0
    exact ⟨rfl, h1, h2⟩
end Go.Proofs.YtipfhamhiaeieaaDoor
namespace Go.Proofs.YtipfhamhiaeieaaDoor
open Go.ChangeShapes Go.WideShapes Go.ChangeAt Go.RowKit

theorem u32_of_wf {x : Int} (h : (Lit.int .u32 x).wf = true) : ∃ n : Nat, x = n ∧ is32 n := by
  simp only [Lit.wf, Bool.and_eq_true, decide_eq_true_eq] at h
  have h1 : IntKind.u32.min = 0 := rfl
  have h2 : IntKind.u32.max = 4294967295 := rfl
  rw [h1, h2] at h
  exact ⟨x.toNat, by omega, by unfold is32; omega⟩
section
variable {H : Type} {enc : TypeId × Value → H} {P : Program}
theorem open_rows2 {t e : TypeId} {f0 f1 : Field} (ht : P.underlying t = some (.slice e)) (he : P.underlying e = some (.struct #[f0, f1])) (hone : Go.Deep.oneCellFields P #[f0, f1] = true) (ce : P.cellsOf e = 2)
    (u0 : P.underlying f0.type = some (.int .u32)) (u1 : P.underlying f1.type = some (.int .u32)) {W : World} {fuel : Nat} {cs : List Value} {x : DataW H × List MemPlace}
    (h : DataW.trod enc P W 0 (fun _ => true) true fuel t cs = some x) :
    ∃ A n c, ∃ rs : List Snd, cs = [.slice A n c] ∧ Reads W W.heap.size 2 A n (rs.flatMap sndC) ∧ (∀ s ∈ rs, ok32 s) ∧ n ≤ c ∧ c ≤ maxLen := by
  rcases Go.Deep.open_slice ht h with ⟨rfl, _⟩ | ⟨a, len, cap, m, n, D, Pl, rfl, hb, hl, hm, hmm, rfl, hx⟩
  · exact ⟨none, 0, 0, [], rfl, Reads.none_, (fun s hs => by cases hs), by omega, by unfold maxLen; omega⟩
  · simp only [if_true] at hmm
    subst hmm
    obtain ⟨o0, c0⟩ := Go.Deep.hone_of hone 0 f0 rfl
    obtain ⟨o1, c1⟩ := Go.Deep.hone_of hone 1 f1 rfl
    have each : ∀ i, i < m → ∃ q : Snd, ok32 q ∧ ∀ j u, (sndC q)[j]? = some u → W.cell? (a.add (i * 2 + j)) = some u := by
      intro i hi
      obtain ⟨cs', h1, h2⟩ := hx i hi
      rw [ce] at h1
      obtain ⟨_, hlen, hcell⟩ := World.cells?_some h1
      obtain ⟨xs, k, hk, hxy, _, hxl, hf⟩ := DataW.trod_struct he h2
      match xs, hxl, cs', hlen with
      | [y0, y1], _, [w0, w1], _ =>
        have g0 := hf 0 f0 rfl
        have g1 := hf 1 f1 rfl
        simp [o0, o1, c0, c1] at g0 g1
        obtain ⟨z0, e0, WF0⟩ := DataW.trod_int u0 g0
        obtain ⟨z1, e1, WF1⟩ := DataW.trod_int u1 g1
        have k0 := hcell 0 (by omega)
        have k1 := hcell 1 (by omega)
        rw [Go.Deep.add_add] at k0 k1
        simp only [List.cons.injEq, and_true] at e0 e1
        subst e0 e1
        obtain ⟨m0, rfl, l0⟩ := u32_of_wf WF0.2
        obtain ⟨m1, rfl, l1⟩ := u32_of_wf WF1.2
        refine ⟨(m0, m1), ⟨l0, l1⟩, fun j u hu => ?_⟩
        unfold sndC at hu
        match j, hu with
        | 0, hu => simp at hu k0; rw [← hu]; exact k0
        | 1, hu => simp at hu k1; rw [← hu]; exact k1
        | j + 2, hu => simp at hu
    obtain ⟨q, hq⟩ := Go.Deep.choose_lt each
    refine ⟨some a, len, m, (List.range len).map q, rfl, ⟨?_, fun hn => ⟨a, rfl, ?_, fun j u hu => ?_⟩⟩, fun s hs => ?_, hl, hm⟩
    · rw [flatMap_len sndC 2 (fun _ => rfl)]; simp
    · have := lt_cell ((hq 0 (by omega)).2 0 _ rfl)
      rwa [block_of_add] at this
    · have hj : j < len * 2 := by
        have := (List.getElem?_eq_some_iff.1 hu).1
        rw [flatMap_len sndC 2 (fun _ => rfl)] at this; simpa using this
      rw [flatMap_get sndC 2 (fun _ => rfl) _ j (by simpa using hj)] at hu
      have hd : j / 2 < len := by omega
      have := (hq (j / 2) (by omega)).2 (j % 2) u (by
        rw [← hu, getElem!_pos (sndC _) (j % 2) (show j % 2 < (sndC _).length from Nat.mod_lt _ (by decide)), getElem!_pos ((List.range len).map q) (j / 2) (by simpa using hd), ← List.getElem?_eq_getElem]
        simp)
      rwa [show j / 2 * 2 + j % 2 = j by omega] at this
    · obtain ⟨i, hi, rfl⟩ := List.mem_map.1 hs
      exact (hq i (by have := List.mem_range.1 hi; omega)).1
theorem open_word {t e : TypeId} {f0 f1 : Field} {W : World} {base : Nat} {v : Value} {d : DataW H} {ps : List MemPlace} (ht : P.underlying t = some (.slice e)) (he : P.underlying e = some (.struct #[f0, f1])) (hone : Go.Deep.oneCellFields P #[f0, f1] = true) (ce : P.cellsOf e = 2)
    (u0 : P.underlying f0.type = some (.int .u32)) (u1 : P.underlying f1.type = some (.int .u32)) (hval : Value.okWide P W .any base t v)
    (h : DataW.Trod enc P W 0 (fun _ => true) true t v d ps) :
    ∃ A n c, ∃ rs : List Snd, v = .slice A n c ∧ Reads W W.heap.size 2 A n (rs.flatMap sndC) ∧ (∀ s ∈ rs, ok32 s) ∧ n ≤ c ∧ c ≤ maxLen := by
  obtain ⟨A, n, c, rfl⟩ := okWide_slice ht hval
  obtain ⟨fuel, hf⟩ := h
  obtain ⟨A', n', c', rs, e1, h1, h2, h3⟩ := open_rows2 ht he hone ce u0 u1 hf
  simp [Value.cells] at e1
  obtain ⟨rfl, rfl, rfl⟩ := e1
  exact ⟨A, n, c, rs, rfl, h1, h2, h3⟩
theorem u16_of_wf {x : Int} (h : (Lit.int .u16 x).wf = true) : ∃ n : Nat, x = n ∧ n < 65536 := by
  simp only [Lit.wf, Bool.and_eq_true, decide_eq_true_eq] at h
  have h1 : IntKind.u16.min = 0 := rfl
  have h2 : IntKind.u16.max = 65535 := rfl
  rw [h1, h2] at h
  exact ⟨x.toNat, by omega, by omega⟩
theorem open_u32 {t : TypeId} {W : World} {base b0 : Nat} {v : Value} {d : DataW H} {ps : List MemPlace} (ht : P.underlying t = some (.int .u32)) (hval : Value.okWide P W .any b0 t v) (h : DataW.Trod enc P W base (fun _ => true) true t v d ps) :
    ∃ x : Nat, v = .int .u32 x ∧ is32 x := by
  obtain ⟨n, rfl, rfl, _, hw⟩ := open_int ht hval h
  obtain ⟨m, rfl, hm⟩ := u32_of_wf hw
  exact ⟨m, rfl, hm⟩
theorem open_u16 {t : TypeId} {W : World} {base b0 : Nat} {v : Value} {d : DataW H} {ps : List MemPlace} (ht : P.underlying t = some (.int .u16)) (hval : Value.okWide P W .any b0 t v) (h : DataW.Trod enc P W base (fun _ => true) true t v d ps) :
    ∃ x : Nat, v = .int .u16 x ∧ x < 65536 := by
  obtain ⟨n, rfl, rfl, _, hw⟩ := open_int ht hval h
  obtain ⟨m, rfl, hm⟩ := u16_of_wf hw
  exact ⟨m, rfl, hm⟩
end
end Go.Proofs.YtipfhamhiaeieaaDoor
namespace Go.Proofs.YtipfhamhiaeieaaDoor
open Go.RowKit Go.Lib

section
variable {P : Program} (w : World)
theorem run_string_at (base : Nat) (t u ty e : TypeId) (i : TypeInfo) (ht : P.underlying t = some (.slice e)) (hu : P.underlying u = some .string) (hi : P.info? e = some i) (hz : i.zero = some (.int .u8 0))
    (hsize : i.size = 1) (hby : i.bytes = 1) (v : Value) (n : Nat) (xs : List Value) (hown : w.ownsRow base e 1 v n xs) (s : ByteArray)
    (h63 : n + s.size ≤ 140737488351232) (hbase : base ≤ w.heap.size) :
    ∃ v' w', (Builtin.append_ #[t, u] ty #[v, .string s]).run P w = .ok v' w' ∧ w'.ownsRow base e 1 v' (n + s.size) (xs ++ strCells s) ∧ w.grownBy w' v.ownBlock ∧ (v'.ownBlock = v.ownBlock ∨ v'.ownBlock = some w.heap.size) := by
  obtain ⟨v', w', hr, h2, h3, h4⟩ := run_append_own_string (P := P) w base t u ty e i ht hu hi hz hsize hby v n xs hown s (by unfold maxLen; omega) (by omega) hbase
  refine ⟨v', w', hr, h2, h3, ?_⟩
  rcases hown.2 with ⟨rfl, rfl⟩ | ⟨g, cap, cur, rfl, hbg, hg, hnc, hcm, hcs, htake⟩
  · by_cases hm : s.size = 0
    · rw [h4.2 ⟨rfl, hm⟩]; exact .inl rfl
    · have hr2 := run_append_nil_string (P := P) w t u ty e i (.int .u8 0) ht hu hi hz s (by omega) (by omega) (by rw [hby]; omega)
      rw [hr] at hr2
      injection hr2 with hv _
      rw [hv]; exact .inr rfl
  · by_cases hroom : n + s.size ≤ cap
    · have hr2 := run_append_room_string (P := P) w t u ty e i ht hu hi hsize g n cap cur hg s hroom (by rw [Nat.mul_one] at hcs; omega)
      rw [hr] at hr2
      injection hr2 with hv _
      rw [hv]; exact .inl rfl
    · have hr2 := run_append_grow_string (P := P) w t u ty e i (.int .u8 0) ht hu hi hz ⟨g, 0, none⟩ n cap xs (by rw [hsize]; exact hown.1) (hown.cells (g := g) rfl) s (by omega) (by omega) (growslice_fits (by omega) (by rw [hby]; omega))
      rw [hr] at hr2
      injection hr2 with hv _
      rw [hv]; exact .inr rfl
theorem wpList_string_at {ops : Array Oper} {rest : List Oper} {o : Oper} {a : Act} {Q : Exit → Act → World → Prop} (hgd : o.guard = none) (sl x : Operand) (t u : TypeId)
    (ho : o.op = .call { callee := .builtin .append, args := #[sl, x], argTypes := #[t, u] })
    (base : Nat) (e : TypeId) (i : TypeInfo) (ht : P.underlying t = some (.slice e)) (hu : P.underlying u = some .string) (hi : P.info? e = some i) (hz : i.zero = some (.int .u8 0))
    (hsize : i.size = 1) (hby : i.bytes = 1) (v : Value) (n : Nat) (xs : List Value) (hs : a.eval sl = v) (hown : w.ownsRow base e 1 v n xs) (s : ByteArray) (hx : a.eval x = .string s)
    (h63 : n + s.size ≤ 140737488351232) (hbase : base ≤ w.heap.size)
    (h : ∀ v' w', w'.ownsRow base e 1 v' (n + s.size) (xs ++ strCells s) → w.grownBy w' v.ownBlock → (v'.ownBlock = v.ownBlock ∨ v'.ownBlock = some w.heap.size) → wpList P ops Q rest (a.put o.dst v') w') : wpList P ops Q (o :: rest) a w := by
  refine wpList_plain hgd fun K hK => ?_
  obtain ⟨v', w', hr, h2, h3, h4⟩ := run_string_at (P := P) w base t u o.type e i ht hu hi hz hsize hby v n xs hown s h63 hbase
  unfold Oper.wp execOp
  simp only [ho, resolve, invoke, builtin, Sem.run_bind, Sem.run_pure, Result.andThen_ok, List.map_toArray, List.map_cons, List.map_nil, hs, hx, hr]
  exact hK _ _ (h v' w' h2 h3 h4)
end
/-- The bytes of a string, as numbers. -/
def sbytes (s : ByteArray) : List Nat := s.data.toList.map UInt8.toNat
theorem sbytes_len (s : ByteArray) : (sbytes s).length = s.size := by unfold sbytes; rw [List.length_map]; rfl
theorem strCells_eq (s : ByteArray) : strCells s = (sbytes s).map bv := by unfold strCells sbytes; rw [List.map_map]; rfl
def textB (s : ByteArray) : List Nat := numB s.size ++ sbytes s
set_option maxRecDepth 20000 in
set_option maxHeartbeats 1000000 in
theorem text_any (w : World) (base g : Nat) (s : ByteArray) (xs : List Nat) (h : Wr w base g xs) (hs : s.size < 4294967296) (hx : xs.length + 5 + s.size ≤ CAP) :
    Calls Tryd.prog 58 #[wptr g, .string s] w fun e w' => e = .returned (.tuple #[]) ∧ Wr w' base g (xs ++ textB s) ∧ WStep g w w' := by
  obtain ⟨i0, hi, hz0, hz1, hz2⟩ := info_parts (show (Tryd.prog.info? 5).map (fun i => (i.zero, i.size, i.bytes)) = some (some (.int .u8 0), 1, 1) by kernel_rfl)
  have hl := numB_len s.size
  have hc1 := count_any w base g s.size xs h hs (by omega)
  unfold CAP at hx
  have HH := Lib.hid h
  clear h
  go_enter Tryd.func58, Tryd.ntmps58
  go_wp2_with fail
  refine hc1.mono ?_
  rintro e w1 ⟨rfl, h1, h2⟩
  have hlen : (xs ++ numB s.size).length = xs.length + (numB s.size).length := List.length_append
  obtain ⟨v, b1, b2, b3⟩ := id h1
  have hc := b1.cell 0
  have hf := b1.frozen 0
  simp only [List.getElem?_toArray, List.getElem?_cons_zero] at hc
  have hgl := b1.lt
  have hne : v.ownBlock ≠ some g := own_blk_ne b3 b1 (by decide)
  have HWR := Lib.hid h1; have HST := Lib.hid h2; have HC := Lib.hid hc; have HB1 := Lib.hid b1; have HB3 := Lib.hid b3; have HNE := Lib.hid hne; have HL := Lib.hid hlen
  clear h1 h2 b1 b3 hne hc1 hlen
  generalize (numB s.size).length = L at *
  go_wp2_with (at_builtin; refine wpList_string_at _ rfl _ _ 62 9 rfl base 5 i0 Tryd.underlying62 Tryd.underlying9 hi hz0 hz1 hz2 _ _ _ rfl HB3.out s rfl (by rw [HL.out]; omega) (by omega) ?_; intro v' w3 hown' hgrow hx'; have hb3 : Blk w3 g 62 #[v] := (HB1.out).grown hgrow (fun e => HNE.out e.symm); have hc3 : w3.cell? ⟨g, 0, none⟩ = some v := (by simpa using hb3.cell 0); have hf3 := hb3.frozen 0; have hres := wr_append (ys := sbytes s) HWR.out HC.out (WStep.refl g w1) (by unfold rowOf; rw [HC.out]; rfl) (by rw [sbytes_len, ← strCells_eq]; exact hown') hgrow hx' rfl; have HRES := Lib.hid hres; clear hres hb3 hx' hgrow; obtain ⟨A', c', rfl, _, _⟩ := ownsRow_form hown'; have HOWN := Lib.hid hown'; clear hown')
  go_end0
  have hr := HRES.out
  rw [List.length_append] at hr
  exact ⟨rfl, by unfold textB; rw [← List.append_assoc]; exact hr.1, HST.out.trans hr.2⟩
end Go.Proofs.YtipfhamhiaeieaaDoor
namespace Go.Proofs.YtipfhamhiaeieaaDoor
open Go.RowKit Go.Lib

theorem add_next (a : Addr) (n j : Nat) : a.add (n + (j + 1)) = ⟨(a.add n).block, (a.add n).off + (j + 1), none⟩ := by
  unfold Addr.add
  by_cases h : n = 0
  · subst h; simp
  · rw [if_neg h, if_neg (by omega)]; simp [Nat.add_assoc]
theorem Reads.len_of {α : Type} [Inhabited α] {w : World} {B n k : Nat} {A : Option Addr} {l : List α} {f : α → List Value} (h : Reads w B k A n (l.flatMap f)) (hk : ∀ x, (f x).length = k) (k0 : 0 < k) : l.length = n := by
  have := h.1
  rw [flatMap_len f k hk] at this
  exact Nat.eq_of_mul_eq_mul_right k0 this
theorem Reads.row {α : Type} [Inhabited α] {w : World} {B n k i : Nat} {A : Option Addr} {l : List α} {f : α → List Value} (h : Reads w B k A n (l.flatMap f)) (hk : ∀ x, (f x).length = k) (k0 : 0 < k) (hi : i < l.length) :
    ∃ ad, A = some ad ∧ ad.block < B ∧ ∀ j u, (f l[i])[j]? = some u → w.cell? (ad.add (i * k + j)) = some u := by
  have hl := h.len_of hk k0
  obtain ⟨ad, e, hb, hc⟩ := h.2 (by omega)
  refine ⟨ad, e, hb, fun j u hu => hc _ u ?_⟩
  have hj : j < k := by rw [← hk l[i]]; exact (List.getElem?_eq_some_iff.1 hu).1
  have hlt : i * k + j < l.length * k := by
    have : i * k + k ≤ l.length * k := by rw [← Nat.succ_mul]; exact Nat.mul_le_mul_right _ hi
    omega
  rw [flatMap_get f k hk l _ hlt, show (i * k + j) / k = i by rw [Nat.mul_comm, Nat.mul_add_div k0, Nat.div_eq_of_lt hj]; omega, show (i * k + j) % k = j by rw [Nat.mul_comm, Nat.mul_add_mod, Nat.mod_eq_of_lt hj], getElem!_pos l i hi, getElem!_pos (f l[i]) j (by rw [hk]; exact hj), ← hu, List.getElem?_eq_getElem]
theorem snd_cells {w : World} {B n i : Nat} {A : Option Addr} {l : List Snd} (h : Reads w B 2 A n (l.flatMap sndC)) (hi : i < l.length) :
    ∃ ad, A = some ad ∧ ad.block < B ∧ w.cell? (ad.add (i * 2)) = some (.int .u32 l[i].1) ∧ w.cell? ⟨(ad.add (i * 2)).block, (ad.add (i * 2)).off + 1, none⟩ = some (.int .u32 l[i].2) := by
  obtain ⟨ad, e, hb, hc⟩ := h.row (fun _ => rfl) (by decide) hi
  exact ⟨ad, e, hb, hc 0 _ rfl, by rw [← add_next ad (i * 2) 0]; exact hc 1 _ rfl⟩
theorem flatB_len {α : Type} {put : α → List Nat} {m : Nat} (h : ∀ x, (put x).length ≤ m) (l : List α) : (l.flatMap put).length ≤ m * l.length := by
  induction l with
  | nil => simp
  | cons x l ih =>
    rw [List.flatMap_cons, List.length_append, List.length_cons, Nat.mul_add]
    have := h x
    omega
theorem take_flat {α : Type} (put : α → List Nat) (l : List α) (k : Nat) (hk : k < l.length) : (l.take (k + 1)).flatMap put = (l.take k).flatMap put ++ put l[k] := by
  rw [List.take_succ_eq_append_getElem hk, List.flatMap_append]; simp
set_option maxRecDepth 20000 in
set_option maxHeartbeats 1000000 in
theorem allSnd_any (w : World) (base g B : Nat) (A : Option Addr) (n c : Nat) (ws : List Snd) (xs : List Nat) (h : Wr w base g xs) (hr : Reads w B 2 A n (ws.flatMap sndC)) (hB : B ≤ base) (hn : n < 4294967296) (hok : ∀ s ∈ ws, ok32 s) (hx : xs.length + 5 + 10 * n ≤ CAP) :
    Calls Tryd.prog 35 #[wptr g, .slice A n c, .func (.func 36) #[wptr g] #[]] w fun e w' => e = .returned (.tuple #[]) ∧ Wr w' base g (xs ++ wordB ws) ∧ WStep g w w' := by
  have hwl := hr.len_of (fun _ => rfl) (by decide)
  have hc1 := count_any w base g n xs h hn (by omega)
  have hl := numB_len n
  have HH := Lib.hid h; have HR := Lib.hid hr; have HWL := Lib.hid hwl; have HOK := Lib.hid hok
  clear h hr hwl hok
  go_enter Tryd.func35, Tryd.ntmps35
  go_wp2_with fail
  refine hc1.mono ?_
  rintro e w1 ⟨rfl, h1, h2⟩
  have HW := Lib.hid h1; have HST := Lib.hid h2
  clear h1 h2 hc1
  go_wp2
  go_loopw [14] (fun i wr => ∃ k : Nat, k ≤ n ∧ i = .int .i64 k ∧ Wr wr base g (xs ++ numB n ++ (ws.take k).flatMap sndB) ∧ WStep g w wr) (fun i _ => n - (RowKit.intOf i).toNat)
  case atStart => exact ⟨0, by omega, rfl, by simpa using HW.out, HST.out⟩
  case round =>
    obtain ⟨k, hk, rfl, hwr, hst⟩ := hrel
    have HWR := Lib.hid hwr; have HST2 := Lib.hid hst
    clear hwr hst
    by_cases hlt : k < n
    · have hkl : k < ws.length := by rw [HWL.out]; exact hlt
      have hkI : (k : Int) < (n : Int) := by omega
      obtain ⟨ad, rfl, had, hc0, hc1⟩ := snd_cells (HST2.out.reads HH.out HR.out hB) hkl
      go_wp2_with fail
      have hlen : (xs ++ numB n ++ (ws.take k).flatMap sndB).length + 10 ≤ CAP := by
        have := flatB_len sndB_len (ws.take k)
        rw [List.length_append, List.length_append]
        rw [List.length_take, HWL.out] at this
        omega
      refine (sound_any _ base g ws[k] _ (HWR.out.alloc _) (HOK.out _ (List.getElem_mem hkl)) hlen).mono ?_
      rintro e w2 ⟨rfl, h3, h4⟩
      have H3 := Lib.hid h3; have H4 := Lib.hid h4
      clear h3 h4
      go_wp2
      go_roundw
      case rel => exact ⟨k + 1, by omega, by go_num, by rw [take_flat sndB ws k hkl, ← List.append_assoc]; exact H3.out, (HST2.out.alloc HWR.out.lt _).trans H4.out⟩
      case measure => simp [RowKit.intOf]; omega
    · obtain rfl : k = n := by omega
      go_wp2
      go_end0
      refine ⟨rfl, ?_, HST2.out⟩
      have := HWR.out
      rw [List.take_of_length_le (by rw [HWL.out]; exact Nat.le_refl _), List.append_assoc] at this
      show Wr wr base g (xs ++ (numB ws.length ++ ws.flatMap sndB))
      rw [HWL.out]; exact this
end Go.Proofs.YtipfhamhiaeieaaDoor
