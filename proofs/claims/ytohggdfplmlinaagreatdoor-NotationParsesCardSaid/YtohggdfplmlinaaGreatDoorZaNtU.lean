/-
  layer 4: the iterator over the units of a text. Conditions: a notation in memory. (Printed by units.py.)
-/
import Derived.Test.YtohggdfplmlinaaGreatDoorZaag
import Derived.Test.YtohggdfplmlinaaGreatDoorZaah
import Derived.Test.YtohggdfplmlinaaGreatDoorZaRangeA
import Derived.Sort.QuietIn
namespace Go.Proofs.YtohggdfplmlinaaGreatDoor
open Go.RowKit Go.Lib

theorem longN_le (L : List Nam) (t : List UInt8) : longN L t ≤ t.length := by
  unfold longN
  have h : ∀ n, symAt L t n = true → n ≤ t.length := fun n hn => by unfold symAt at hn; simp only [Bool.and_eq_true, decide_eq_true_eq] at hn; exact hn.1
  split
  · exact h 4 (by assumption)
  split
  · exact h 3 (by assumption)
  split
  · exact h 2 (by assumption)
  split
  · exact h 1 (by assumption)
  · exact Nat.zero_le _
theorem longN_sym {L : List Nam} {t : List UInt8} (h0 : longN L t ≠ 0) : hasSym L (t.take (longN L t)) = true := by
  have h : ∀ n, symAt L t n = true → hasSym L (t.take n) = true := fun n hn => by unfold symAt at hn; simp only [Bool.and_eq_true] at hn; exact hn.2
  unfold longN at *
  split
  · exact h 4 (by assumption)
  split
  · exact h 3 (by assumption)
  split
  · exact h 2 (by assumption)
  split
  · exact h 1 (by assumption)
  · rename_i h4 h3 h2 h1
    rw [if_neg h4, if_neg h3, if_neg h2, if_neg h1] at h0
    exact absurd rfl h0
theorem soundOf_ok {fs : List ByteArray} {L : List Nam} (h : InvOk fs L) (t : List UInt8) : ok32 (soundOf L t) := by
  unfold soundOf
  cases hf : L.find? fun x => decide (bs x.1 = t) with
  | none => exact ⟨Nat.succ_pos _, Nat.succ_pos _⟩
  | some x => exact (h.sym x (List.mem_of_find?_eq_some hf)).2.2
theorem markS_mem {t : List UInt8} {m : Mk} : ∀ (ms : List Mk) (b : Option Mk), ms.foldl (markS t) b = some m → b = some m ∨ (m ∈ ms ∧ (bs m.text).isPrefixOf t = true)
  | [], _, h => .inl h
  | y :: ms, b, h => by
    rcases markS_mem ms (markS t b y) h with h1 | ⟨h1, h2⟩
    · unfold markS at h1
      split at h1
      · rename_i hc
        injection h1 with h1
        subst h1
        simp only [Bool.and_eq_true] at hc
        exact .inr ⟨List.mem_cons_self, hc.1⟩
      · exact .inl h1
    · exact .inr ⟨List.mem_cons_of_mem _ h1, h2⟩
theorem markAt_mem {ms : List Mk} {t : List UInt8} {m : Mk} (h : markAt ms t = some m) : m ∈ ms ∧ m.text.size ≤ t.length := by
  rcases markS_mem ms none h with h1 | ⟨h1, h2⟩
  · cases h1
  · refine ⟨h1, ?_⟩
    have := (List.isPrefixOf_iff_prefix.1 h2).length_le
    rwa [size_bs] at this
theorem bs_drop (s : ByteArray) (k : Nat) : bs (s.extract k s.size) = (bs s).drop k := by
  rw [bs_extract, List.take_of_length_le (by rw [size_bs]; exact Nat.le_refl _)]
abbrev asB (l : List UInt8) : ByteArray := ⟨l.toArray⟩
theorem bs_asB (l : List UInt8) : bs (asB l) = l := rfl
theorem cut_eq (s : ByteArray) (k m : Nat) : s.extract k (k + m) = asB (((bs s).drop k).take m) := by
  refine str_eq ?_
  show bs _ = bs _
  rw [bs_extract, bs_asB, List.drop_take]
  congr 1
  omega
theorem NotN.below {w w' : World} {S : Nat → Prop} {g N : Nat} {fs : List ByteArray} {L : List Nam} {ms : List Mk} (h : NotN w S g fs L ms N) (hb : Below w.heap.size w w') : NotN w' S g fs L ms N := by
  obtain ⟨gi, A, c, bm, n, f, ⟨h1, h1'⟩, h2, ⟨h3, h3'⟩, ⟨h4, h4', h5⟩, h6, h7⟩ := h
  exact ⟨gi, A, c, bm, n, f, ⟨h1.below hb h1.lt, h1'⟩, h2.below hb, ⟨own_chgS (S := fun _ => False) h3 (.of_below hb) (fun _ _ h => h), h3'⟩, ⟨h4.chgS (S := fun _ => False) (.of_below hb) (fun h => h), h4', h5⟩, h6, h7⟩
theorem NotM.below {w w' : World} {S : Nat → Prop} {g : Nat} {fs : List ByteArray} {L : List Nam} {ms : List Mk} (h : NotM w S g fs L ms) (hb : Below w.heap.size w w') : NotM w' S g fs L ms := by
  obtain ⟨N, h⟩ := h
  exact ⟨N, h.below hb⟩
theorem NotN.chg {w w' : World} {S T : Nat → Prop} {g N : Nat} {fs : List ByteArray} {L : List Nam} {ms : List Mk} (h : NotN w S g fs L ms N) (hc : ChgS T w w') (ht : ∀ b, S b → ¬ T b) : NotN w' S g fs L ms N := by
  obtain ⟨gi, A, c, bm, n, f, ⟨h1, h2⟩, h3, ⟨h4, h5⟩, ⟨h6, h7, h8⟩, h9, h10⟩ := h
  exact ⟨gi, A, c, bm, n, f, ⟨h1.chgS hc (ht _ h2), h2⟩, h3.chg hc (fun b hb => ht _ hb.1), ⟨own_chgS h4 hc (fun k hk => ht _ (h5 k hk)), h5⟩, ⟨h6.chgS hc (ht _ h7), h7, h8⟩, h9, h10⟩
theorem NotN.mono {w : World} {S T : Nat → Prop} {g N : Nat} {fs : List ByteArray} {L : List Nam} {ms : List Mk} (h : NotN w S g fs L ms N) (hs : ∀ b, S b → T b) : NotN w T g fs L ms N := by
  obtain ⟨gi, A, c, bm, n, f, ⟨h1, h2⟩, h3, ⟨h4, h5⟩, ⟨h6, h7, h8⟩, h9, h10⟩ := h
  exact ⟨gi, A, c, bm, n, f, ⟨h1, hs _ h2⟩, h3.mono (fun b hb => ⟨hs _ hb.1, hb.2⟩), ⟨h4, fun b hb => hs _ (h5 b hb)⟩, ⟨h6, hs _ h7, h8⟩, h9, h10⟩
theorem NotN.dots {w : World} {S : Nat → Prop} {g N : Nat} {fs : List ByteArray} {L : List Nam} {ms : List Mk} (h : NotN w S g fs L ms N) : NoDot L ms := by
  obtain ⟨gi, A, c, bm, n, f, -, h2, -, -, -, -, h6⟩ := h
  exact noDot_of (fun x hx => (h2.ok.sym x hx).1) h6
abbrev encU (u : Un) : Array Value := #[.agg #[.int .u32 u.x.1, .int .u32 u.x.2, .string (asB u.text), .int .i64 u.at_]]
/-- What a round must keep for the iterator: what lay below n, and its two boxes. -/
def KeepU (n b0 b1 : Nat) (A B : World) : Prop := Below n A B ∧ B.heap[b0]? = A.heap[b0]? ∧ B.heap[b1]? = A.heap[b1]?
theorem unitsK_len (L : List Nam) (ms : List Mk) : ∀ (f k : Nat) (t : List UInt8), (unitsK L ms f k t).length ≤ f
  | 0, _, _ => Nat.le_refl _
  | f + 1, k, t => by
    unfold unitsK
    split
    · exact Nat.zero_le _
    split
    · simp
    · simp only [List.length_cons]
      exact Nat.succ_le_succ (unitsK_len L ms f _ _)
theorem unitsK_none {L : List Nam} {ms : List Mk} {f k : Nat} {t : List UInt8} (ht : t ≠ []) (h : longN L (t.drop (skipD k t)) = 0) : unitsK L ms (f + 1) k t = [⟨(0, 0), [], k + skipD k t⟩] := by
  rw [unitsK, if_neg ht]
  have : unitR L ms (t.drop (skipD k t)) = none := by unfold unitR; rw [if_pos h]
  rw [this]
theorem unitsK_some {L : List Nam} {ms : List Mk} {f k m : Nat} {x : Snd} {t : List UInt8} (ht : t ≠ []) (h : longN L (t.drop (skipD k t)) ≠ 0) (hr : marksR ms 4 (t.drop (skipD k t)) (soundOf L ((t.drop (skipD k t)).take (longN L (t.drop (skipD k t))))) (longN L (t.drop (skipD k t))) = (x, m)) :
    unitsK L ms (f + 1) k t = ⟨x, (t.drop (skipD k t)).take m, k + skipD k t⟩ :: unitsK L ms f (k + skipD k t + m) (t.drop (skipD k t + m)) := by
  rw [unitsK, if_neg ht]
  have : unitR L ms (t.drop (skipD k t)) = some (x, m) := by unfold unitR; rw [if_neg h, hr]
  rw [this]
set_option linter.unusedSimpArgs false in
set_option maxRecDepth 20000 in
set_option maxHeartbeats 60000000 in
theorem units_iter {w1 w0 : World} {S : Nat → Prop} {g : Nat} {fs : List ByteArray} {L : List Nam} {ms : List Mk} (s : ByteArray) (b0 b1 : Nat) (hN : NotM w1 S g fs L ms) (h10 : Below w1.heap.size w1 w0)
    (hb0 : Blk w0 b0 32 #[wptr g]) (hb1 : Blk w0 b1 9 #[.string s]) (hs : s.size ≤ maxLen) :
    IterAt Tryz.prog 91 #[wptr b1, wptr b0] encU (fun _ => False) (KeepU w1.heap.size b0 b1) (fun xs => xs = unitsK L ms (s.size + 1) 0 (bs s)) (fun pre => pre <+: unitsK L ms (s.size + 1) 0 (bs s)) (s.size + 1) w0 := by
  intro l J Jx W hW hJ hJx hY h0
  refine callsIn_wide.2 ?_
  show Calls Tryz.prog 91 #[.func (.yield l) #[] #[], wptr b1, wptr b0] W _
  have HY := Lib.hid hY; have HJ := Lib.hid hJ; have HJX := Lib.hid hJx
  clear hY hJ hJx
  have hB0 : Blk W b0 32 #[wptr g] := hb0.below hW hb0.lt
  have hB1 : Blk W b1 9 #[.string s] := hb1.below hW hb1.lt
  have hA0 : Below w1.heap.size w1 W := h10.trans (hW.mono h10.size)
  have hUl := unitsK_len L ms (s.size + 1) 0 (bs s)
  obtain ⟨U, hU⟩ : ∃ U, unitsK L ms (s.size + 1) 0 (bs s) = U := ⟨_, rfl⟩
  rw [hU] at hUl ⊢
  have HN := Lib.hid hN; have HUL := Lib.hid hUl
  clear hN h10 hb0 hb1 hW hUl
  have hs' := hs
  unfold maxLen at hs'
  go_enter Tryz.func91, Tryz.ntmps91
  go_wp2
  go_loopw [4] (fun i wr => ∃ (pre : List Un) (k f : Nat), k ≤ s.size ∧ i = .int .i64 k ∧ s.size + 1 ≤ f + k ∧ U = pre ++ unitsK L ms f k ((bs s).drop k) ∧ Blk wr b0 32 #[wptr g] ∧ Blk wr b1 9 #[.string s] ∧ Below w1.heap.size w1 wr ∧ J pre wr) (fun i _ => s.size - (RowKit.intOf i).toNat)
  case atStart => exact ⟨[], 0, s.size + 1, by omega, rfl, by omega, hU.symm, hB0, hB1, hA0, h0⟩
  case round =>
    obtain ⟨pre, k, f, hk, rfl, hfk, hUe, hb0, hb1, hbw, hj⟩ := hrel
    obtain ⟨wo, rfl⟩ : ∃ W, W = wr := ⟨_, rfl⟩
    have c0 := hb0.cell 0
    have c1 := hb1.cell 0
    simp only [List.getElem?_toArray, List.getElem?_cons_zero] at c0 c1
    have HUE := Lib.hid hUe; have HB0 := Lib.hid hb0; have HB1 := Lib.hid hb1; have HBW := Lib.hid hbw; have HJJ := Lib.hid hj
    clear hUe hb0 hb1 hbw hj hB0 hB1 hA0 h0 hU
    by_cases hlt : k < s.size
    · have hkI : (k : Int) < (s.size : Int) := by omega
      obtain ⟨f, rfl⟩ : ∃ f', f = f' + 1 := ⟨f - 1, by omega⟩
      have hkb : k < (bs s).length := by rw [size_bs]; exact hlt
      have htn : (bs s).drop k ≠ [] := fun e => by have := congrArg List.length e; rw [List.length_drop] at this; simp at this; omega
      have hhead : ((bs s).drop k).head? = some (s[k]'hlt) := by rw [List.head?_drop, List.getElem?_eq_getElem hkb]; rfl
      obtain ⟨d, hd⟩ : ∃ d, skipD k ((bs s).drop k) = d := ⟨_, rfl⟩
      have hd1 : d ≤ 1 := by rw [← hd]; unfold skipD; split <;> omega
      have hskip : d = if 0 < k ∧ s[k]'hlt = 46 then 1 else 0 := by
        rw [← hd]; unfold skipD; rw [hhead]; simp only [Option.some.injEq]
      have hnone := fun (h : longN L ((bs s).drop (k + d)) = 0) => unitsK_none (ms := ms) (f := f) (k := k) htn (by rw [hd, List.drop_drop]; exact h)
      have hsome := fun x m (h : longN L ((bs s).drop (k + d)) ≠ 0) (hr : marksR ms 4 ((bs s).drop (k + d)) (soundOf L (((bs s).drop (k + d)).take (longN L ((bs s).drop (k + d))))) (longN L ((bs s).drop (k + d))) = (x, m)) => unitsK_some (ms := ms) (f := f) (k := k) (x := x) (m := m) htn (by rw [hd, List.drop_drop]; exact h) (by rw [hd, List.drop_drop]; exact hr)
      simp only [hd, List.drop_drop] at hnone hsome
      have HNONE := Lib.hid hnone; have HSOME := Lib.hid hsome; have HSKIP := Lib.hid hskip
      clear hnone hsome hskip hd htn hhead hkb
      have hx256 : ((s[k].toNat : Nat) : Int) < 256 := by have := s[k].toNat_lt; omega
      have hk0' : (0 : Int) ≤ (k : Int) := by omega
      by_cases hd46 : 0 < k ∧ s[k] = 46
      · obtain rfl : d = 1 := by rw [HSKIP.out, if_pos hd46]
        obtain ⟨hkp, h46⟩ := hd46
        have hkpI : (0 : Int) < (k : Int) := by omega
        have h46I : (s[k].toNat : Int) = 46 := by rw [h46]; rfl
        clear HSKIP h46
        go_wp2
        rw [show (k : Int) + 1 = ((k + 1 : Nat) : Int) from by omega]
        obtain ⟨kk, hkk⟩ : ∃ kk, k + 1 = kk := ⟨_, rfl⟩
        rw [hkk] at HNONE HSOME ⊢
        focus
          have hkl2 : kk ≤ s.size := by omega
          have hkI2 : (kk : Int) ≤ (s.size : Int) := by omega
          have hN := HN.out.below HBW.out
          obtain ⟨gi, A, c, bm, n, fm, h1, hI, -, -, hmk, h32⟩ := hN.parts
          have g0 := h1.cell 0
          simp only [List.getElem?_toArray, List.getElem?_cons_zero] at g0
          have hsx : (s.extract kk s.size).size ≤ maxLen := Nat.le_trans (size_extract_le _ _ _) hs
          have hlq : ∀ n, Calls Tryz.prog 92 #[wptr gi, .string (s.extract kk s.size)] (wo.drewN n) fun e w'' => e = .returned (.tuple #[.string ((s.extract kk s.size).extract 0 (longN L ((bs s).drop kk))), .bool (decide (longN L ((bs s).drop kk) ≠ 0))]) ∧ ∃ m, w'' = wo.drewN m := fun n => (longest_any (w := wo.drewN n) (s.extract kk s.size) (show InvM (wo.drewN n) S gi fs L from hI) hsx).mono (by
            rintro e w' ⟨rfl, q, rfl⟩
            unfold longV
            rw [bs_drop]
            exact ⟨rfl, _, World.drewN_drewN _ _ _⟩)
          have HI := Lib.hid hI; have HNR := Lib.hid hN; have HMK := Lib.hid hmk; have HIOK := Lib.hid hI.ok
          clear h1 hI hN hmk
          by_cases hn0 : longN L ((bs s).drop kk) = 0
          · rw [hn0, decide_eq_false (show ¬ (0 : Nat) ≠ 0 from fun h => h rfl)] at hlq
            have HLQ := Lib.hid hlq
            clear hlq
            go_quiet ((go_at_call 92; exact HLQ.out _))
            obtain ⟨w2, hw2⟩ : ∃ W, wo.drewN nq = W := ⟨_, rfl⟩
            have hb2 : Below wo.heap.size wo w2 := by rw [← hw2]; exact ⟨rfl, rfl, rfl, Nat.le_refl _, fun _ _ => rfl⟩
            rw [hw2]
            have HB2 := Lib.hid hb2
            clear hw2 hb2 c0 c1 g0 HI HLQ
            have hUu : U = pre ++ [⟨(0, 0), [], kk⟩] := by rw [HUE.out, HNONE.out hn0]
            have hlen : pre.length < s.size + 1 := by
              have := HUL.out
              rw [hUu, List.length_append] at this
              simp only [List.length_cons, List.length_nil] at this
              omega
            have hj2 : J pre w2 := HJ.out pre wo w2 none HJJ.out (grown_of_below HB2.out none) (fun r e => by cases e)
            obtain ⟨fn, tmps, assign, body, hy, hR⟩ := HY.out pre ⟨(0, 0), [], kk⟩ w2 hj2 hlen
            have hy2 : (Instr.yield l #[.agg #[.int .u32 0, .int .u32 0, .string ⟨#[]⟩, .int .i64 (kk : Int)]]).run Tryz.prog w2 = .ok (.round l fn tmps assign body) w2 := hy
            have HUU := Lib.hid hUu; have HRR := Lib.hid hR
            clear hy hUu hlen hj2 hR hn0 HNONE HSOME
            iterate 16 (first | go_values | go_skip | go_guarded | go_step | go_upon | go_back)
            with_reducible refine (wpIn_wide (c := .region 6 _ _) (n := 3)).1 ?_
            gi_wp2_with fail
            refine HRR.out.mono ?_
            rintro e W3 (⟨rfl, hJ3, hk3⟩ | ⟨rfl, hJx3⟩)
            · have HJ3 := Lib.hid hJ3
              clear hJ3 hk3 hy2
              gi_wp2
              go_wp2
              refine bodyPost_ret (results_none rfl _ _ _) rfl ?_
              exact ⟨⟨_, rfl⟩, .inl ⟨U, rfl, by rw [HUU.out]; exact HJ3.out⟩⟩
            · have HJ3 := Lib.hid hJx3
              clear hJx3 hy2
              gi_wp2
              go_wp2
              refine bodyPost_ret (results_none rfl _ _ _) rfl ?_
              exact ⟨⟨_, rfl⟩, .inr ⟨_, by rw [HUU.out]; exact List.prefix_refl _, HJ3.out⟩⟩
          · rw [decide_eq_true hn0] at hlq
            have hsome := fun x m => HSOME.out x m hn0
            have hlong := longN_sym hn0
            have hlt2 := longN_le L ((bs s).drop kk)
            have hsnd := fun W (hW : Below wo.heap.size wo W) => invSound_any ((s.extract kk s.size).extract 0 (longN L ((bs s).drop kk))) (HI.out.below hW) (Nat.le_trans (size_extract_le _ _ _) hsx) (by rw [bs_pre, bs_drop]; exact hlong)
            rw [bs_pre, bs_drop] at hsnd
            have hok := soundOf_ok HIOK.out (((bs s).drop kk).take (longN L ((bs s).drop kk)))
            have hsz0 : ((s.extract kk s.size).extract 0 (longN L ((bs s).drop kk))).size = longN L ((bs s).drop kk) := by
              rw [← size_bs, bs_pre, bs_drop, List.length_take]; omega
            obtain ⟨sy, hsy⟩ : ∃ sy, (s.extract kk s.size).extract 0 (longN L ((bs s).drop kk)) = sy := ⟨_, rfl⟩
            obtain ⟨x0, hx0⟩ : ∃ x, soundOf L (((bs s).drop kk).take (longN L ((bs s).drop kk))) = x := ⟨_, rfl⟩
            rw [hsy] at hsz0 hsnd hlq
            rw [hx0] at hsnd hok hsome
            have hdl : ((bs s).drop kk).length = s.size - kk := by rw [List.length_drop, size_bs]
            rw [hdl] at hlt2
            generalize longN L ((bs s).drop kk) = n0 at *
            have HLQ := Lib.hid hlq; have HS2 := Lib.hid hsome; have HSN := Lib.hid hsnd; have HOK := Lib.hid hok; have HDL := Lib.hid hdl
            clear hlq hsome hlong hsnd hok hsy hx0 hdl HSOME HNONE
            go_quiet ((go_at_call 92; exact HLQ.out _))
            obtain ⟨w2, hw2⟩ : ∃ W, wo.drewN nq = W := ⟨_, rfl⟩
            have hb2 : Below wo.heap.size wo w2 := by rw [← hw2]; exact ⟨rfl, rfl, rfl, Nat.le_refl _, fun _ _ => rfl⟩
            rw [hw2]
            have c0' : w2.cell? ⟨b0, 0, none⟩ = some (wptr g) := by rw [← hw2]; exact c0
            have g0' : w2.cell? ⟨g, 0, none⟩ = some (wptr gi) := by rw [← hw2]; exact g0
            have HB2 := Lib.hid hb2
            clear hw2 hb2 HLQ c0 g0 c1
            go_wp2_with fail
            refine (HSN.out w2 HB2.out).mono ?_
            rintro e w3 ⟨rfl, hb3⟩
            have hb3' := HB2.out.trans (hb3.mono HB2.out.size)
            have HB3 := Lib.hid hb3'
            clear hb3 hb3' c0' g0'
            have hbx := Blk.new w3 30 #[.int .u32 x0.1, .int .u32 x0.2]
            have hba := HB3.out.alloc HB3.out.size (.cells #[.int .u32 x0.1, .int .u32 x0.2] 30)
            have hbxo : wo.heap.size ≤ w3.heap.size := HB3.out.size
            have HBX := Lib.hid hbx; have HBA := Lib.hid hba
            clear hbx hba
            go_wp2
            go_loopw [9, 56] (fun a i wr => ∃ (j m : Nat) (x : Snd), j ≤ 4 ∧ i = .int .i64 j ∧ a = .int .i64 ((kk : Int) + (m : Int)) ∧ n0 ≤ m ∧ m ≤ s.size - kk ∧ ok32 x ∧ marksR ms 4 ((bs s).drop kk) x0 n0 = marksR ms (4 - j) ((bs s).drop kk) x m ∧ Blk wr w3.heap.size 30 #[.int .u32 x.1, .int .u32 x.2] ∧ Below wo.heap.size wo wr) (fun _ i _ => 4 - (RowKit.intOf i).toNat)
            case atStart => exact ⟨0, n0, x0, by omega, rfl, by rw [← hsz0], Nat.le_refl _, hlt2, HOK.out, rfl, HBX.out, HBA.out⟩
            case round =>
              obtain ⟨j, m, x, hj4, rfl, rfl, hnm, hm, hxok, hmr, hbx, hbw⟩ := hrel
              have HMR := Lib.hid hmr; have HBXr := Lib.hid hbx; have HBWr := Lib.hid hbw; have HXOK := Lib.hid hxok
              have hbxl := hbx.lt
              clear hmr hbx hbw hxok
              have hb0r : Blk wr b0 32 #[wptr g] := HB0.out.below HBWr.out HB0.out.lt
              have hb1r : Blk wr b1 9 #[.string s] := HB1.out.below HBWr.out HB1.out.lt
              have c0 := hb0r.cell 0
              have c1 := hb1r.cell 0
              simp only [List.getElem?_toArray, List.getElem?_cons_zero] at c0 c1
              have hcutI : (0 : Int) ≤ (kk : Int) + (m : Int) := by omega
              have hcutJ : (kk : Int) + (m : Int) ≤ (s.size : Int) := by omega
              have hcutN : ((kk : Int) + (m : Int)).toNat = kk + m := by omega
              by_cases hj : j < 4
              · have hjI : (j : Int) < 4 := by omega
                have hNr := HNR.out.below HBWr.out
                obtain ⟨mk, hmk⟩ : ∃ b, markAt ms ((bs s).drop (kk + m)) = b := ⟨_, rfl⟩
                have hcall := fun W (hW : Below wr.heap.size wr W) => mark_any (s.extract (kk + m) s.size) (hNr.below hW)
                simp only [bs_drop, hmk] at hcall
                have hkeep : ∀ W, Below wr.heap.size wr W → W.cell? ⟨b0, 0, none⟩ = some (wptr g) ∧ W.cell? ⟨b1, 0, none⟩ = some (.string s) := fun W hW => ⟨(hW.cell (p := ⟨b0, 0, none⟩) hb0r.lt).trans c0, (hW.cell (p := ⟨b1, 0, none⟩) hb1r.lt).trans c1⟩
                have hMK : ∀ y, mk = some y → y ∈ ms ∧ y.text.size ≤ ((bs s).drop (kk + m)).length := fun y e => markAt_mem (hmk.trans e)
                have HC := Lib.hid hcall; have HKEEP := Lib.hid hkeep; have HMKE := Lib.hid hmk
                clear hNr hcall hkeep hmk
                have hwd : Below wr.heap.size wr wr.drew := (Below.refl _ wr).drew
                have HWD := Lib.hid hwd; have HWD0 := Lib.hid (Below.refl wr.heap.size wr)
                clear hwd
                go_wp2
                refine wp_region_held_drew (S := (fun W => W.cell? ⟨b0, 0, none⟩ = some (wptr g) ∧ W.cell? ⟨b1, 0, none⟩ = some (.string s))) (by kernel_rfl) ?_ (fun hHeld => ?_)
                · exact ⟨c0, c1⟩
                refine wpAnyH_take (i := 0) (v := ?_) rfl (by kernel_rfl) (by kernel_rfl) (by kernel_rfl) (fun _ _ _ h => h) (Or.inl ⟨by rfl, ?_⟩) (by assumption) ?_
                rotate_left
                · intro w hSw
                  (try dsimp only at hSw)
                  go_simp <;> with_reducible rfl
                try simp only [Act.put, List.getElem_toArray, List.getElem_cons_succ, List.getElem_cons_zero, List.setIfInBounds_toArray, List.set_cons_zero, List.set_cons_succ]
                refine wpAnyH_take (i := 1) (v := ?_) rfl (by kernel_rfl) (by kernel_rfl) (by kernel_rfl) (fun _ _ _ h => h) (Or.inl ⟨by rfl, ?_⟩) (by assumption) ?_
                rotate_left
                · intro w hSw
                  (try dsimp only at hSw)
                  go_simp <;> with_reducible rfl
                try simp only [Act.put, List.getElem_toArray, List.getElem_cons_succ, List.getElem_cons_zero, List.setIfInBounds_toArray, List.set_cons_zero, List.set_cons_succ]
                refine wpAnyH_take (i := 2) (v := ?_) rfl (by kernel_rfl) (by kernel_rfl) (by kernel_rfl) (fun _ _ _ h => h) (Or.inl ⟨by rfl, ?_⟩) (by assumption) ?_
                rotate_left
                · intro w hSw
                  (try dsimp only at hSw)
                  go_simp <;> with_reducible rfl
                try simp only [Act.put, List.getElem_toArray, List.getElem_cons_succ, List.getElem_cons_zero, List.setIfInBounds_toArray, List.set_cons_zero, List.set_cons_succ]
                refine wpAnyH_take (i := 3) (v := ?_) rfl (by kernel_rfl) (by kernel_rfl) (by kernel_rfl) (fun _ _ _ h => h) (Or.inl ⟨by rfl, ?_⟩) (by assumption) ?_
                rotate_left
                · intro w hSw
                  (try dsimp only at hSw)
                  go_simp <;> with_reducible rfl
                try simp only [Act.put, List.getElem_toArray, List.getElem_cons_succ, List.getElem_cons_zero, List.setIfInBounds_toArray, List.set_cons_zero, List.set_cons_succ]
                refine wpAnyH_ready (rs := [4, 8]) (by kernel_rfl) (by simp) ?_
                refine AllReadyH.cons rfl (fun K hK => ?_) (AllReadyH.cons rfl (fun K hK => ?_) AllReadyH.nil)
                · go_simp
                  (try go_wp2_with fail)
                  refine (HC.out _ HWD.out).mono ?_
                  rintro e w5 ⟨rfl, hb5⟩
                  have HB5 := Lib.hid (HWD.out.trans (hb5.mono HWD.out.size))
                  clear hb5
                  (try go_simp)
                  refine hK.out _ _ ?_ (fun hHeld' => ?_)
                  · (try dsimp only)
                    exact HKEEP.out _ HB5.out
                  clear hK K hHeld
                  have hHeld := hHeld'
                  clear hHeld'
                  refine wpAnyH_take (i := 5) (v := ?_) rfl (by kernel_rfl) (by kernel_rfl) (by kernel_rfl) (fun _ _ _ h => h) (Or.inl ⟨by rfl, ?_⟩) (by assumption) ?_
                  rotate_left
                  · intro w hSw
                    (try dsimp only at hSw)
                    go_simp <;> with_reducible rfl
                  try simp only [Act.put, List.getElem_toArray, List.getElem_cons_succ, List.getElem_cons_zero, List.setIfInBounds_toArray, List.set_cons_zero, List.set_cons_succ]
                  refine wpAnyH_take (i := 6) (v := ?_) rfl (by kernel_rfl) (by kernel_rfl) (by kernel_rfl) (fun _ _ _ h => h) (Or.inl ⟨by rfl, ?_⟩) (by assumption) ?_
                  rotate_left
                  · intro w hSw
                    (try dsimp only at hSw)
                    go_simp <;> with_reducible rfl
                  try simp only [Act.put, List.getElem_toArray, List.getElem_cons_succ, List.getElem_cons_zero, List.setIfInBounds_toArray, List.set_cons_zero, List.set_cons_succ]
                  refine wpAnyH_take (i := 7) (v := ?_) rfl (by kernel_rfl) (by kernel_rfl) (by kernel_rfl) (fun _ _ _ h => h) (Or.inl ⟨by rfl, ?_⟩) (by assumption) ?_
                  rotate_left
                  · intro w hSw
                    (try dsimp only at hSw)
                    go_simp <;> with_reducible rfl
                  try simp only [Act.put, List.getElem_toArray, List.getElem_cons_succ, List.getElem_cons_zero, List.setIfInBounds_toArray, List.set_cons_zero, List.set_cons_succ]
                  refine wpAnyH_ready (rs := [8]) (by kernel_rfl) (by simp) ?_
                  refine AllReadyH.cons rfl (fun K hK => ?_) AllReadyH.nil
                  go_simp
                  have hbn := Blk.new w5 83 #[.string ⟨#[]⟩, .int .u32 0, .int .u32 0, .int .u32 0]
                  have hba := HB5.out.alloc HB5.out.size (.cells #[.string ⟨#[]⟩, .int .u32 0, .int .u32 0, .int .u32 0] 83)
                  refine hK.out _ _ ?_ (fun hHeld' => ?_)
                  · (try dsimp only)
                    exact HKEEP.out _ hba
                  clear hK K hHeld
                  have hHeld := hHeld'
                  clear hHeld'
                  refine wpAnyH_ready (rs := [9]) (by kernel_rfl) (by simp) ?_
                  refine AllReadyH.cons rfl (fun K hK => ?_) AllReadyH.nil
                  go_simp
                  have hmb := Blk.new w5 83 (mkC (mk.getD noMk))
                  have hbW := HB5.out.alloc HB5.out.size (.cells (mkC (mk.getD noMk)) 83)
                  have hbq : wr.heap.size ≤ w5.heap.size := HB5.out.size
                  obtain ⟨bq, hbqe⟩ : ∃ b, w5.heap.size = b := ⟨_, rfl⟩
                  obtain ⟨w6, hw6⟩ : ∃ W, w5.alloc (.cells (mkC (mk.getD noMk)) 83) = W := ⟨_, rfl⟩
                  rw [hbqe] at hmb hbq ⊢
                  rw [hw6] at hmb hbW ⊢
                  clear hbn hba hbqe hw6 HB5
                  refine hK.out _ _ ?_ (fun hHeld' => ?_)
                  · (try dsimp only)
                    exact HKEEP.out _ hbW
                  clear hK K hHeld
                  have hHeld := hHeld'
                  clear hHeld'
                  refine wpAnyH_take (i := 10) (v := ?_) rfl (by kernel_rfl) (by kernel_rfl) (by kernel_rfl) (fun _ _ _ h => h) (Or.inl ⟨by rfl, ?_⟩) (by assumption) ?_
                  rotate_left
                  · intro w hSw
                    (try dsimp only at hSw)
                    go_simp <;> with_reducible rfl
                  try simp only [Act.put, List.getElem_toArray, List.getElem_cons_succ, List.getElem_cons_zero, List.setIfInBounds_toArray, List.set_cons_zero, List.set_cons_succ]
                  refine wpAnyH_done (by kernel_rfl) ?_ _
                  clear hHeld
                  have hbWo := HBWr.out.trans (hbW.mono HBWr.out.size)
                  have hxb := HBXr.out.below hbW hbxl
                  have hqb : w3.heap.size ≠ bq := by omega
                  have hb0r : Blk w6 b0 32 #[wptr g] := HB0.out.below hbWo HB0.out.lt
                  have hb1r : Blk w6 b1 9 #[.string s] := HB1.out.below hbWo HB1.out.lt
                  have HMB := Lib.hid hmb; have HBXr := Lib.hid hxb; have HBWr := Lib.hid hbWo
                  clear hmb hbW hxb hbWo c0 c1 HC HKEEP HWD HWD0
                  cases mk with
                  | none =>
                    have hfin : marksR ms 4 ((bs s).drop kk) x0 n0 = (x, m) := by
                      rw [HMR.out, show 4 - j = (3 - j) + 1 by omega, marksR, List.drop_drop, HMKE.out]
                    have HFIN := Lib.hid hfin
                    clear hfin HMR HMKE HMB
                    have c1 := hb1r.cell 0
                    have c0 := hb0r.cell 0
                    simp only [List.getElem?_toArray, List.getElem?_cons_zero] at c0 c1
                    go_wp2
                    have d0 := HBXr.out.cell 0
                    have d1 := HBXr.out.cell 1
                    simp only [List.getElem?_toArray, List.getElem?_cons_zero, List.getElem?_cons_succ] at d0 d1
                    have hUu : U = (pre ++ [⟨x, ((bs s).drop kk).take m, kk⟩]) ++ unitsK L ms f (kk + m) ((bs s).drop (kk + m)) := by
                      rw [HUE.out, HS2.out x m HFIN.out, List.append_assoc, List.singleton_append]
                      refine congrArg (fun z => pre ++ (⟨x, ((bs s).drop kk).take m, kk⟩ :: unitsK L ms f (kk + m) ((bs s).drop z))) (?_ : _ = kk + m)
                      omega
                    have hlen : pre.length < s.size + 1 := by
                      have := HUL.out
                      rw [hUu, List.length_append, List.length_append] at this
                      simp only [List.length_cons, List.length_nil] at this
                      omega
                    have hj2 : J pre w6.drew := HJ.out pre wo w6.drew none HJJ.out (grown_of_below HBWr.out.drew none) (fun r e => by cases e)
                    obtain ⟨fn, tmps, assign, body, hy, hR⟩ := HY.out pre ⟨x, ((bs s).drop kk).take m, kk⟩ w6.drew hj2 hlen
                    have hy2 : (Instr.yield l #[.agg #[.int .u32 x.1, .int .u32 x.2, .string (s.extract kk (kk + m)), .int .i64 (kk : Int)]]).run Tryz.prog w6.drew = .ok (.round l fn tmps assign body) w6.drew := by
                      rw [cut_eq]
                      exact hy
                    have HUU := Lib.hid hUu; have HRR := Lib.hid hR
                    have HC0 := Lib.hid hb0r; have HC1 := Lib.hid hb1r
                    clear hy hUu hlen hj2 hR hb0r hb1r c0
                    have hcutL : (kk : Int) ≤ (kk : Int) + (m : Int) := by omega
                    refine (wpIn_wide (c := .region 16 _ _) (n := 3)).1 ?_
                    refine wpIn_region_still_tail 8 (by kernel_rfl) (by kernel_rfl) ?_
                    simp only [List.take_succ_cons, List.take_zero, List.drop_succ_cons, List.drop_zero]
                    iterate 8 still_step
                    refine wpStill_nil ?_
                    gi_wp2_with fail
                    refine HRR.out.mono ?_
                    rintro e W3 (⟨rfl, hJ3, hk3⟩ | ⟨rfl, hJx3⟩)
                    · have HJ3 := Lib.hid hJ3; have HK3 := Lib.hid hk3
                      clear hJ3 hk3 hy2 d0 d1 c1
                      gi_wp2
                      go_wp2
                      go_roundw
                      case rel =>
                        obtain ⟨k1, k2, k3⟩ := HK3.out
                        exact ⟨_, kk + m, f, by omega, by go_num, by omega, HUU.out, (show Blk W3 b0 _ _ from k2.trans HC0.out), (show Blk W3 b1 _ _ from k3.trans HC1.out), (HBW.out.trans (HBWr.out.drew.mono HBW.out.size)).trans k1, HJ3.out⟩
                      case measure => simp [RowKit.intOf]; omega
                    · have HJ3 := Lib.hid hJx3
                      clear hJx3 hy2 d0 d1 c1
                      gi_wp2
                      go_wp2
                      refine bodyPost_ret (results_none rfl _ _ _) rfl ?_
                      exact ⟨⟨_, rfl⟩, .inr ⟨_, ⟨_, HUU.out.symm⟩, HJ3.out⟩⟩
                  | some y =>
                    obtain ⟨hy1, hy2⟩ := hMK y rfl
                    obtain ⟨hyc, hys, -⟩ := HMK.out y hy1
                    have hch := change_any x y.set y.clear w6 HXOK.out hys hyc
                    have hnx : marksR ms 4 ((bs s).drop kk) x0 n0 = marksR ms (4 - (j + 1)) ((bs s).drop kk) (chgS x y.clear y.set) (m + y.text.size) := by
                      rw [HMR.out, show 4 - j = (3 - j) + 1 by omega, marksR, List.drop_drop, HMKE.out, show 4 - (j + 1) = 3 - j by omega]
                    have hcok : ok32 (chgS x y.clear y.set) := chg_ok HXOK.out hys
                    have hty : m + y.text.size ≤ s.size - kk := by
                      rw [List.length_drop, size_bs] at hy2; omega
                    have d0 := HBXr.out.cell 0; have d1 := HBXr.out.cell 1
                    have e0 := HMB.out.cell 0; have e1 := HMB.out.cell 1; have e2 := HMB.out.cell 2; have e3 := HMB.out.cell 3
                    simp only [Option.getD_some, List.getElem?_toArray, List.getElem?_cons_zero, List.getElem?_cons_succ] at d0 d1 e0 e1 e2 e3
                    generalize chgS x y.clear y.set = cx at *
                    have HCH := Lib.hid hch; have HNX := Lib.hid hnx; have HCOK := Lib.hid hcok
                    clear hch hnx hcok hyc hys hy1 hy2 HMR HMKE hMK hb0r hb1r
                    go_wp2_with fail
                    refine HCH.out.mono ?_
                    rintro e w7 ⟨v, rfl, hb7⟩
                    have hx7 := HBXr.out.below hb7 HBXr.out.lt
                    have hm7 := HMB.out.below hb7 HMB.out.lt
                    have hxs := (hx7.set_ 0 (.int .u32 cx.1)).set_ 1 (.int .u32 cx.2)
                    have hbe := ((HBWr.out.trans (hb7.mono HBWr.out.size)).setCell (p := ⟨w3.heap.size, 0, none⟩) hbxo (.int .u32 cx.1)).setCell (p := ⟨w3.heap.size, 1, none⟩) hbxo (.int .u32 cx.2)
                    have d0' := hx7.cell 0; have d1' := hx7.cell 1
                    have fr0 := hx7.frozen 0; have fr1 := hx7.frozen 1
                    have e0' := hm7.cell 0
                    have hqb2 : ¬ bq = w3.heap.size := fun e => hqb e.symm
                    simp only [Option.getD_some, List.getElem?_toArray, List.getElem?_cons_zero, List.getElem?_cons_succ] at d0' d1' e0'
                    have HXS := Lib.hid hxs; have HBE := Lib.hid hbe
                    clear hb7 hx7 hm7 hxs hbe d0 d1 e0 e1 e2 e3 HCH HMB
                    go_wp2
                    go_roundw
                    case rel => exact ⟨j + 1, m + y.text.size, cx, by omega, by go_num, by go_num, by omega, hty, HCOK.out, HNX.out, HXS.out, HBE.out⟩
                    case measure => simp [RowKit.intOf]; omega
                · go_simp
                  have hbn0 := (Blk.new wr 83 #[.string ⟨#[]⟩, .int .u32 0, .int .u32 0, .int .u32 0]).drew
                  have hba0 := (HWD0.out.alloc (Nat.le_refl _) (.cells #[.string ⟨#[]⟩, .int .u32 0, .int .u32 0, .int .u32 0] 83)).drew
                  have hza : (wr.alloc (.cells #[.string ⟨#[]⟩, .int .u32 0, .int .u32 0, .int .u32 0] 83)).drew.heap.size = wr.heap.size + 1 := World.size_alloc _ _
                  obtain ⟨w4, hw4⟩ : ∃ W, (wr.alloc (.cells #[.string ⟨#[]⟩, .int .u32 0, .int .u32 0, .int .u32 0] 83)).drew = W := ⟨_, rfl⟩
                  rw [hw4] at hbn0 hba0 hza ⊢
                  clear hw4
                  have HBN := Lib.hid hbn0; have HBA4 := Lib.hid hba0
                  clear hbn0 hba0
                  refine hK.out _ _ ?_ (fun hHeld' => ?_)
                  · (try dsimp only)
                    exact HKEEP.out _ HBA4.out
                  clear hK K hHeld
                  have hHeld := hHeld'
                  clear hHeld'
                  refine wpAnyH_ready (rs := [4]) (by kernel_rfl) (by simp) ?_
                  refine AllReadyH.cons rfl (fun K hK => ?_) AllReadyH.nil
                  go_simp
                  (try go_wp2_with fail)
                  refine (HC.out _ HBA4.out).mono ?_
                  rintro e w5 ⟨rfl, hb5⟩
                  have HB5 := Lib.hid (HBA4.out.trans (hb5.mono HBA4.out.size))
                  have hz5 := HBN.out.below hb5 HBN.out.lt
                  have z0 := hz5.cell 0; have z1 := hz5.cell 1; have z2 := hz5.cell 2; have z3 := hz5.cell 3
                  have fz0 := hz5.frozen 0; have fz1 := hz5.frozen 1; have fz2 := hz5.frozen 2; have fz3 := hz5.frozen 3
                  simp only [List.getElem?_toArray, List.getElem?_cons_zero, List.getElem?_cons_succ] at z0 z1 z2 z3
                  have hmb := set4 (m := noMk) (mk.getD noMk) hz5
                  have hbW := below4 (mk.getD noMk) HB5.out (Nat.le_refl wr.heap.size)
                  have HMB := Lib.hid hmb; have HBW6 := Lib.hid hbW
                  clear hb5 hz5 hmb hbW
                  (try go_simp)
                  refine hK.out _ _ ?_ (fun hHeld' => ?_)
                  · (try dsimp only)
                    exact HKEEP.out _ HB5.out
                  clear hK K hHeld
                  have hHeld := hHeld'
                  clear hHeld'
                  refine wpAnyH_take (i := 5) (v := ?_) rfl (by kernel_rfl) (by kernel_rfl) (by kernel_rfl) (fun _ _ _ h => h) (Or.inl ⟨by rfl, ?_⟩) (by assumption) ?_
                  rotate_left
                  · intro w hSw
                    (try dsimp only at hSw)
                    go_simp <;> with_reducible rfl
                  try simp only [Act.put, List.getElem_toArray, List.getElem_cons_succ, List.getElem_cons_zero, List.setIfInBounds_toArray, List.set_cons_zero, List.set_cons_succ]
                  refine wpAnyH_take (i := 6) (v := ?_) rfl (by kernel_rfl) (by kernel_rfl) (by kernel_rfl) (fun _ _ _ h => h) (Or.inl ⟨by rfl, ?_⟩) (by assumption) ?_
                  rotate_left
                  · intro w hSw
                    (try dsimp only at hSw)
                    go_simp <;> with_reducible rfl
                  try simp only [Act.put, List.getElem_toArray, List.getElem_cons_succ, List.getElem_cons_zero, List.setIfInBounds_toArray, List.set_cons_zero, List.set_cons_succ]
                  refine wpAnyH_take (i := 7) (v := ?_) rfl (by kernel_rfl) (by kernel_rfl) (by kernel_rfl) (fun _ _ _ h => h) (Or.inl ⟨by rfl, ?_⟩) (by assumption) ?_
                  rotate_left
                  · intro w hSw
                    (try dsimp only at hSw)
                    go_simp <;> with_reducible rfl
                  try simp only [Act.put, List.getElem_toArray, List.getElem_cons_succ, List.getElem_cons_zero, List.setIfInBounds_toArray, List.set_cons_zero, List.set_cons_succ]
                  refine wpAnyH_ready (rs := [9]) (by kernel_rfl) (by simp) ?_
                  refine AllReadyH.cons rfl (fun K hK => ?_) AllReadyH.nil
                  go_simp
                  have hmb := HMB.out
                  have hbW := HBW6.out
                  have hbq : wr.heap.size ≤ wr.heap.size := Nat.le_refl _
                  obtain ⟨bq, hbqe⟩ : ∃ b, wr.heap.size = b := ⟨_, rfl⟩
                  clear HMB HBW6 z0 z1 z2 z3 fz0 fz1 fz2 fz3 HBN HBA4 HB5 hza
                  refine hK.out _ _ ?_ (fun hHeld' => ?_)
                  · (try dsimp only)
                    exact HKEEP.out _ hbW
                  clear hK K hHeld
                  have hHeld := hHeld'
                  clear hHeld'
                  refine wpAnyH_take (i := 10) (v := ?_) rfl (by kernel_rfl) (by kernel_rfl) (by kernel_rfl) (fun _ _ _ h => h) (Or.inl ⟨by rfl, ?_⟩) (by assumption) ?_
                  rotate_left
                  · intro w hSw
                    (try dsimp only at hSw)
                    go_simp <;> with_reducible rfl
                  try simp only [Act.put, List.getElem_toArray, List.getElem_cons_succ, List.getElem_cons_zero, List.setIfInBounds_toArray, List.set_cons_zero, List.set_cons_succ]
                  refine wpAnyH_done (by kernel_rfl) ?_ _
                  clear hHeld
                  generalize (((w5.setCell ⟨wr.heap.size, 0, none⟩ (.string (mk.getD noMk).text)).setCell ⟨wr.heap.size, 1, none⟩ (.int .u32 (mk.getD noMk).clear)).setCell ⟨wr.heap.size, 2, none⟩ (.int .u32 (mk.getD noMk).set.1)).setCell ⟨wr.heap.size, 3, none⟩ (.int .u32 (mk.getD noMk).set.2) = w6 at hmb hbW ⊢
                  rw [hbqe] at hmb ⊢
                  have hbq : wr.heap.size ≤ bq := by omega
                  clear hbqe
                  have hbWo := HBWr.out.trans (hbW.mono HBWr.out.size)
                  have hxb := HBXr.out.below hbW hbxl
                  have hqb : w3.heap.size ≠ bq := by omega
                  have hb0r : Blk w6 b0 32 #[wptr g] := HB0.out.below hbWo HB0.out.lt
                  have hb1r : Blk w6 b1 9 #[.string s] := HB1.out.below hbWo HB1.out.lt
                  have HMB := Lib.hid hmb; have HBXr := Lib.hid hxb; have HBWr := Lib.hid hbWo
                  clear hmb hbW hxb hbWo c0 c1 HC HKEEP HWD HWD0
                  cases mk with
                  | none =>
                    have hfin : marksR ms 4 ((bs s).drop kk) x0 n0 = (x, m) := by
                      rw [HMR.out, show 4 - j = (3 - j) + 1 by omega, marksR, List.drop_drop, HMKE.out]
                    have HFIN := Lib.hid hfin
                    clear hfin HMR HMKE HMB
                    have c1 := hb1r.cell 0
                    have c0 := hb0r.cell 0
                    simp only [List.getElem?_toArray, List.getElem?_cons_zero] at c0 c1
                    go_wp2
                    have d0 := HBXr.out.cell 0
                    have d1 := HBXr.out.cell 1
                    simp only [List.getElem?_toArray, List.getElem?_cons_zero, List.getElem?_cons_succ] at d0 d1
                    have hUu : U = (pre ++ [⟨x, ((bs s).drop kk).take m, kk⟩]) ++ unitsK L ms f (kk + m) ((bs s).drop (kk + m)) := by
                      rw [HUE.out, HS2.out x m HFIN.out, List.append_assoc, List.singleton_append]
                      refine congrArg (fun z => pre ++ (⟨x, ((bs s).drop kk).take m, kk⟩ :: unitsK L ms f (kk + m) ((bs s).drop z))) (?_ : _ = kk + m)
                      omega
                    have hlen : pre.length < s.size + 1 := by
                      have := HUL.out
                      rw [hUu, List.length_append, List.length_append] at this
                      simp only [List.length_cons, List.length_nil] at this
                      omega
                    have hj2 : J pre w6.drew := HJ.out pre wo w6.drew none HJJ.out (grown_of_below HBWr.out.drew none) (fun r e => by cases e)
                    obtain ⟨fn, tmps, assign, body, hy, hR⟩ := HY.out pre ⟨x, ((bs s).drop kk).take m, kk⟩ w6.drew hj2 hlen
                    have hy2 : (Instr.yield l #[.agg #[.int .u32 x.1, .int .u32 x.2, .string (s.extract kk (kk + m)), .int .i64 (kk : Int)]]).run Tryz.prog w6.drew = .ok (.round l fn tmps assign body) w6.drew := by
                      rw [cut_eq]
                      exact hy
                    have HUU := Lib.hid hUu; have HRR := Lib.hid hR
                    have HC0 := Lib.hid hb0r; have HC1 := Lib.hid hb1r
                    clear hy hUu hlen hj2 hR hb0r hb1r c0
                    have hcutL : (kk : Int) ≤ (kk : Int) + (m : Int) := by omega
                    refine (wpIn_wide (c := .region 16 _ _) (n := 3)).1 ?_
                    refine wpIn_region_still_tail 8 (by kernel_rfl) (by kernel_rfl) ?_
                    simp only [List.take_succ_cons, List.take_zero, List.drop_succ_cons, List.drop_zero]
                    iterate 8 still_step
                    refine wpStill_nil ?_
                    gi_wp2_with fail
                    refine HRR.out.mono ?_
                    rintro e W3 (⟨rfl, hJ3, hk3⟩ | ⟨rfl, hJx3⟩)
                    · have HJ3 := Lib.hid hJ3; have HK3 := Lib.hid hk3
                      clear hJ3 hk3 hy2 d0 d1 c1
                      gi_wp2
                      go_wp2
                      go_roundw
                      case rel =>
                        obtain ⟨k1, k2, k3⟩ := HK3.out
                        exact ⟨_, kk + m, f, by omega, by go_num, by omega, HUU.out, (show Blk W3 b0 _ _ from k2.trans HC0.out), (show Blk W3 b1 _ _ from k3.trans HC1.out), (HBW.out.trans (HBWr.out.drew.mono HBW.out.size)).trans k1, HJ3.out⟩
                      case measure => simp [RowKit.intOf]; omega
                    · have HJ3 := Lib.hid hJx3
                      clear hJx3 hy2 d0 d1 c1
                      gi_wp2
                      go_wp2
                      refine bodyPost_ret (results_none rfl _ _ _) rfl ?_
                      exact ⟨⟨_, rfl⟩, .inr ⟨_, ⟨_, HUU.out.symm⟩, HJ3.out⟩⟩
                  | some y =>
                    obtain ⟨hy1, hy2⟩ := hMK y rfl
                    obtain ⟨hyc, hys, -⟩ := HMK.out y hy1
                    have hch := change_any x y.set y.clear w6 HXOK.out hys hyc
                    have hnx : marksR ms 4 ((bs s).drop kk) x0 n0 = marksR ms (4 - (j + 1)) ((bs s).drop kk) (chgS x y.clear y.set) (m + y.text.size) := by
                      rw [HMR.out, show 4 - j = (3 - j) + 1 by omega, marksR, List.drop_drop, HMKE.out, show 4 - (j + 1) = 3 - j by omega]
                    have hcok : ok32 (chgS x y.clear y.set) := chg_ok HXOK.out hys
                    have hty : m + y.text.size ≤ s.size - kk := by
                      rw [List.length_drop, size_bs] at hy2; omega
                    have d0 := HBXr.out.cell 0; have d1 := HBXr.out.cell 1
                    have e0 := HMB.out.cell 0; have e1 := HMB.out.cell 1; have e2 := HMB.out.cell 2; have e3 := HMB.out.cell 3
                    simp only [Option.getD_some, List.getElem?_toArray, List.getElem?_cons_zero, List.getElem?_cons_succ] at d0 d1 e0 e1 e2 e3
                    generalize chgS x y.clear y.set = cx at *
                    have HCH := Lib.hid hch; have HNX := Lib.hid hnx; have HCOK := Lib.hid hcok
                    clear hch hnx hcok hyc hys hy1 hy2 HMR HMKE hMK hb0r hb1r
                    go_wp2_with fail
                    refine HCH.out.mono ?_
                    rintro e w7 ⟨v, rfl, hb7⟩
                    have hx7 := HBXr.out.below hb7 HBXr.out.lt
                    have hm7 := HMB.out.below hb7 HMB.out.lt
                    have hxs := (hx7.set_ 0 (.int .u32 cx.1)).set_ 1 (.int .u32 cx.2)
                    have hbe := ((HBWr.out.trans (hb7.mono HBWr.out.size)).setCell (p := ⟨w3.heap.size, 0, none⟩) hbxo (.int .u32 cx.1)).setCell (p := ⟨w3.heap.size, 1, none⟩) hbxo (.int .u32 cx.2)
                    have d0' := hx7.cell 0; have d1' := hx7.cell 1
                    have fr0 := hx7.frozen 0; have fr1 := hx7.frozen 1
                    have e0' := hm7.cell 0
                    have hqb2 : ¬ bq = w3.heap.size := fun e => hqb e.symm
                    simp only [Option.getD_some, List.getElem?_toArray, List.getElem?_cons_zero, List.getElem?_cons_succ] at d0' d1' e0'
                    have HXS := Lib.hid hxs; have HBE := Lib.hid hbe
                    clear hb7 hx7 hm7 hxs hbe d0 d1 e0 e1 e2 e3 HCH HMB
                    go_wp2
                    go_roundw
                    case rel => exact ⟨j + 1, m + y.text.size, cx, by omega, by go_num, by go_num, by omega, hty, HCOK.out, HNX.out, HXS.out, HBE.out⟩
                    case measure => simp [RowKit.intOf]; omega
              · obtain rfl : j = 4 := by omega
                have hfin : marksR ms 4 ((bs s).drop kk) x0 n0 = (x, m) := HMR.out
                have HFIN := Lib.hid hfin
                clear hfin HMR
                go_wp2
                have d0 := HBXr.out.cell 0
                have d1 := HBXr.out.cell 1
                simp only [List.getElem?_toArray, List.getElem?_cons_zero, List.getElem?_cons_succ] at d0 d1
                have hUu : U = (pre ++ [⟨x, ((bs s).drop kk).take m, kk⟩]) ++ unitsK L ms f (kk + m) ((bs s).drop (kk + m)) := by
                  rw [HUE.out, HS2.out x m HFIN.out, List.append_assoc, List.singleton_append]
                  refine congrArg (fun z => pre ++ (⟨x, ((bs s).drop kk).take m, kk⟩ :: unitsK L ms f (kk + m) ((bs s).drop z))) (?_ : _ = kk + m)
                  omega
                have hlen : pre.length < s.size + 1 := by
                  have := HUL.out
                  rw [hUu, List.length_append, List.length_append] at this
                  simp only [List.length_cons, List.length_nil] at this
                  omega
                have hj2 : J pre wr.drew := HJ.out pre wo wr.drew none HJJ.out (grown_of_below HBWr.out.drew none) (fun r e => by cases e)
                obtain ⟨fn, tmps, assign, body, hy, hR⟩ := HY.out pre ⟨x, ((bs s).drop kk).take m, kk⟩ wr.drew hj2 hlen
                have hy2 : (Instr.yield l #[.agg #[.int .u32 x.1, .int .u32 x.2, .string (s.extract kk (kk + m)), .int .i64 (kk : Int)]]).run Tryz.prog wr.drew = .ok (.round l fn tmps assign body) wr.drew := by
                  rw [cut_eq]
                  exact hy
                have HUU := Lib.hid hUu; have HRR := Lib.hid hR
                have HC0 := Lib.hid hb0r; have HC1 := Lib.hid hb1r
                clear hy hUu hlen hj2 hR hb0r hb1r c0
                have hcutL : (kk : Int) ≤ (kk : Int) + (m : Int) := by omega
                refine (wpIn_wide (c := .region 16 _ _) (n := 3)).1 ?_
                refine wpIn_region_still_tail 8 (by kernel_rfl) (by kernel_rfl) ?_
                simp only [List.take_succ_cons, List.take_zero, List.drop_succ_cons, List.drop_zero]
                iterate 8 still_step
                refine wpStill_nil ?_
                gi_wp2_with fail
                refine HRR.out.mono ?_
                rintro e W3 (⟨rfl, hJ3, hk3⟩ | ⟨rfl, hJx3⟩)
                · have HJ3 := Lib.hid hJ3; have HK3 := Lib.hid hk3
                  clear hJ3 hk3 hy2 d0 d1 c1
                  gi_wp2
                  go_wp2
                  go_roundw
                  case rel =>
                    obtain ⟨k1, k2, k3⟩ := HK3.out
                    exact ⟨_, kk + m, f, by omega, by go_num, by omega, HUU.out, (show Blk W3 b0 _ _ from k2.trans HC0.out), (show Blk W3 b1 _ _ from k3.trans HC1.out), (HBW.out.trans (HBWr.out.drew.mono HBW.out.size)).trans k1, HJ3.out⟩
                  case measure => simp [RowKit.intOf]; omega
                · have HJ3 := Lib.hid hJx3
                  clear hJx3 hy2 d0 d1 c1
                  gi_wp2
                  go_wp2
                  refine bodyPost_ret (results_none rfl _ _ _) rfl ?_
                  exact ⟨⟨_, rfl⟩, .inr ⟨_, ⟨_, HUU.out.symm⟩, HJ3.out⟩⟩
      · obtain rfl : d = 0 := by rw [HSKIP.out, if_neg hd46]
        simp only [Nat.add_zero] at HNONE HSOME
        clear HSKIP
        by_cases hk0 : k = 0
        · have hkn : ¬ (0 : Int) < (k : Int) := by omega
          clear hk0 hd46
          go_wp2
          clear hkn
          focus
            have hkl2 : k ≤ s.size := by omega
            have hkI2 : (k : Int) ≤ (s.size : Int) := by omega
            have hN := HN.out.below HBW.out
            obtain ⟨gi, A, c, bm, n, fm, h1, hI, -, -, hmk, h32⟩ := hN.parts
            have g0 := h1.cell 0
            simp only [List.getElem?_toArray, List.getElem?_cons_zero] at g0
            have hsx : (s.extract k s.size).size ≤ maxLen := Nat.le_trans (size_extract_le _ _ _) hs
            have hlq : ∀ n, Calls Tryz.prog 92 #[wptr gi, .string (s.extract k s.size)] (wo.drewN n) fun e w'' => e = .returned (.tuple #[.string ((s.extract k s.size).extract 0 (longN L ((bs s).drop k))), .bool (decide (longN L ((bs s).drop k) ≠ 0))]) ∧ ∃ m, w'' = wo.drewN m := fun n => (longest_any (w := wo.drewN n) (s.extract k s.size) (show InvM (wo.drewN n) S gi fs L from hI) hsx).mono (by
              rintro e w' ⟨rfl, q, rfl⟩
              unfold longV
              rw [bs_drop]
              exact ⟨rfl, _, World.drewN_drewN _ _ _⟩)
            have HI := Lib.hid hI; have HNR := Lib.hid hN; have HMK := Lib.hid hmk; have HIOK := Lib.hid hI.ok
            clear h1 hI hN hmk
            by_cases hn0 : longN L ((bs s).drop k) = 0
            · rw [hn0, decide_eq_false (show ¬ (0 : Nat) ≠ 0 from fun h => h rfl)] at hlq
              have HLQ := Lib.hid hlq
              clear hlq
              go_quiet ((go_at_call 92; exact HLQ.out _))
              obtain ⟨w2, hw2⟩ : ∃ W, wo.drewN nq = W := ⟨_, rfl⟩
              have hb2 : Below wo.heap.size wo w2 := by rw [← hw2]; exact ⟨rfl, rfl, rfl, Nat.le_refl _, fun _ _ => rfl⟩
              rw [hw2]
              have HB2 := Lib.hid hb2
              clear hw2 hb2 c0 c1 g0 HI HLQ
              have hUu : U = pre ++ [⟨(0, 0), [], k⟩] := by rw [HUE.out, HNONE.out hn0]
              have hlen : pre.length < s.size + 1 := by
                have := HUL.out
                rw [hUu, List.length_append] at this
                simp only [List.length_cons, List.length_nil] at this
                omega
              have hj2 : J pre w2 := HJ.out pre wo w2 none HJJ.out (grown_of_below HB2.out none) (fun r e => by cases e)
              obtain ⟨fn, tmps, assign, body, hy, hR⟩ := HY.out pre ⟨(0, 0), [], k⟩ w2 hj2 hlen
              have hy2 : (Instr.yield l #[.agg #[.int .u32 0, .int .u32 0, .string ⟨#[]⟩, .int .i64 (k : Int)]]).run Tryz.prog w2 = .ok (.round l fn tmps assign body) w2 := hy
              have HUU := Lib.hid hUu; have HRR := Lib.hid hR
              clear hy hUu hlen hj2 hR hn0 HNONE HSOME
              iterate 16 (first | go_values | go_skip | go_guarded | go_step | go_upon | go_back)
              with_reducible refine (wpIn_wide (c := .region 6 _ _) (n := 3)).1 ?_
              gi_wp2_with fail
              refine HRR.out.mono ?_
              rintro e W3 (⟨rfl, hJ3, hk3⟩ | ⟨rfl, hJx3⟩)
              · have HJ3 := Lib.hid hJ3
                clear hJ3 hk3 hy2
                gi_wp2
                go_wp2
                refine bodyPost_ret (results_none rfl _ _ _) rfl ?_
                exact ⟨⟨_, rfl⟩, .inl ⟨U, rfl, by rw [HUU.out]; exact HJ3.out⟩⟩
              · have HJ3 := Lib.hid hJx3
                clear hJx3 hy2
                gi_wp2
                go_wp2
                refine bodyPost_ret (results_none rfl _ _ _) rfl ?_
                exact ⟨⟨_, rfl⟩, .inr ⟨_, by rw [HUU.out]; exact List.prefix_refl _, HJ3.out⟩⟩
            · rw [decide_eq_true hn0] at hlq
              have hsome := fun x m => HSOME.out x m hn0
              have hlong := longN_sym hn0
              have hlt2 := longN_le L ((bs s).drop k)
              have hsnd := fun W (hW : Below wo.heap.size wo W) => invSound_any ((s.extract k s.size).extract 0 (longN L ((bs s).drop k))) (HI.out.below hW) (Nat.le_trans (size_extract_le _ _ _) hsx) (by rw [bs_pre, bs_drop]; exact hlong)
              rw [bs_pre, bs_drop] at hsnd
              have hok := soundOf_ok HIOK.out (((bs s).drop k).take (longN L ((bs s).drop k)))
              have hsz0 : ((s.extract k s.size).extract 0 (longN L ((bs s).drop k))).size = longN L ((bs s).drop k) := by
                rw [← size_bs, bs_pre, bs_drop, List.length_take]; omega
              obtain ⟨sy, hsy⟩ : ∃ sy, (s.extract k s.size).extract 0 (longN L ((bs s).drop k)) = sy := ⟨_, rfl⟩
              obtain ⟨x0, hx0⟩ : ∃ x, soundOf L (((bs s).drop k).take (longN L ((bs s).drop k))) = x := ⟨_, rfl⟩
              rw [hsy] at hsz0 hsnd hlq
              rw [hx0] at hsnd hok hsome
              have hdl : ((bs s).drop k).length = s.size - k := by rw [List.length_drop, size_bs]
              rw [hdl] at hlt2
              generalize longN L ((bs s).drop k) = n0 at *
              have HLQ := Lib.hid hlq; have HS2 := Lib.hid hsome; have HSN := Lib.hid hsnd; have HOK := Lib.hid hok; have HDL := Lib.hid hdl
              clear hlq hsome hlong hsnd hok hsy hx0 hdl HSOME HNONE
              go_quiet ((go_at_call 92; exact HLQ.out _))
              obtain ⟨w2, hw2⟩ : ∃ W, wo.drewN nq = W := ⟨_, rfl⟩
              have hb2 : Below wo.heap.size wo w2 := by rw [← hw2]; exact ⟨rfl, rfl, rfl, Nat.le_refl _, fun _ _ => rfl⟩
              rw [hw2]
              have c0' : w2.cell? ⟨b0, 0, none⟩ = some (wptr g) := by rw [← hw2]; exact c0
              have g0' : w2.cell? ⟨g, 0, none⟩ = some (wptr gi) := by rw [← hw2]; exact g0
              have HB2 := Lib.hid hb2
              clear hw2 hb2 HLQ c0 g0 c1
              go_wp2_with fail
              refine (HSN.out w2 HB2.out).mono ?_
              rintro e w3 ⟨rfl, hb3⟩
              have hb3' := HB2.out.trans (hb3.mono HB2.out.size)
              have HB3 := Lib.hid hb3'
              clear hb3 hb3' c0' g0'
              have hbx := Blk.new w3 30 #[.int .u32 x0.1, .int .u32 x0.2]
              have hba := HB3.out.alloc HB3.out.size (.cells #[.int .u32 x0.1, .int .u32 x0.2] 30)
              have hbxo : wo.heap.size ≤ w3.heap.size := HB3.out.size
              have HBX := Lib.hid hbx; have HBA := Lib.hid hba
              clear hbx hba
              go_wp2
              go_loopw [9, 56] (fun a i wr => ∃ (j m : Nat) (x : Snd), j ≤ 4 ∧ i = .int .i64 j ∧ a = .int .i64 ((k : Int) + (m : Int)) ∧ n0 ≤ m ∧ m ≤ s.size - k ∧ ok32 x ∧ marksR ms 4 ((bs s).drop k) x0 n0 = marksR ms (4 - j) ((bs s).drop k) x m ∧ Blk wr w3.heap.size 30 #[.int .u32 x.1, .int .u32 x.2] ∧ Below wo.heap.size wo wr) (fun _ i _ => 4 - (RowKit.intOf i).toNat)
              case atStart => exact ⟨0, n0, x0, by omega, rfl, by rw [← hsz0], Nat.le_refl _, hlt2, HOK.out, rfl, HBX.out, HBA.out⟩
              case round =>
                obtain ⟨j, m, x, hj4, rfl, rfl, hnm, hm, hxok, hmr, hbx, hbw⟩ := hrel
                have HMR := Lib.hid hmr; have HBXr := Lib.hid hbx; have HBWr := Lib.hid hbw; have HXOK := Lib.hid hxok
                have hbxl := hbx.lt
                clear hmr hbx hbw hxok
                have hb0r : Blk wr b0 32 #[wptr g] := HB0.out.below HBWr.out HB0.out.lt
                have hb1r : Blk wr b1 9 #[.string s] := HB1.out.below HBWr.out HB1.out.lt
                have c0 := hb0r.cell 0
                have c1 := hb1r.cell 0
                simp only [List.getElem?_toArray, List.getElem?_cons_zero] at c0 c1
                have hcutI : (0 : Int) ≤ (k : Int) + (m : Int) := by omega
                have hcutJ : (k : Int) + (m : Int) ≤ (s.size : Int) := by omega
                have hcutN : ((k : Int) + (m : Int)).toNat = k + m := by omega
                by_cases hj : j < 4
                · have hjI : (j : Int) < 4 := by omega
                  have hNr := HNR.out.below HBWr.out
                  obtain ⟨mk, hmk⟩ : ∃ b, markAt ms ((bs s).drop (k + m)) = b := ⟨_, rfl⟩
                  have hcall := fun W (hW : Below wr.heap.size wr W) => mark_any (s.extract (k + m) s.size) (hNr.below hW)
                  simp only [bs_drop, hmk] at hcall
                  have hkeep : ∀ W, Below wr.heap.size wr W → W.cell? ⟨b0, 0, none⟩ = some (wptr g) ∧ W.cell? ⟨b1, 0, none⟩ = some (.string s) := fun W hW => ⟨(hW.cell (p := ⟨b0, 0, none⟩) hb0r.lt).trans c0, (hW.cell (p := ⟨b1, 0, none⟩) hb1r.lt).trans c1⟩
                  have hMK : ∀ y, mk = some y → y ∈ ms ∧ y.text.size ≤ ((bs s).drop (k + m)).length := fun y e => markAt_mem (hmk.trans e)
                  have HC := Lib.hid hcall; have HKEEP := Lib.hid hkeep; have HMKE := Lib.hid hmk
                  clear hNr hcall hkeep hmk
                  have hwd : Below wr.heap.size wr wr.drew := (Below.refl _ wr).drew
                  have HWD := Lib.hid hwd; have HWD0 := Lib.hid (Below.refl wr.heap.size wr)
                  clear hwd
                  go_wp2
                  refine wp_region_held_drew (S := (fun W => W.cell? ⟨b0, 0, none⟩ = some (wptr g) ∧ W.cell? ⟨b1, 0, none⟩ = some (.string s))) (by kernel_rfl) ?_ (fun hHeld => ?_)
                  · exact ⟨c0, c1⟩
                  refine wpAnyH_take (i := 0) (v := ?_) rfl (by kernel_rfl) (by kernel_rfl) (by kernel_rfl) (fun _ _ _ h => h) (Or.inl ⟨by rfl, ?_⟩) (by assumption) ?_
                  rotate_left
                  · intro w hSw
                    (try dsimp only at hSw)
                    go_simp <;> with_reducible rfl
                  try simp only [Act.put, List.getElem_toArray, List.getElem_cons_succ, List.getElem_cons_zero, List.setIfInBounds_toArray, List.set_cons_zero, List.set_cons_succ]
                  refine wpAnyH_take (i := 1) (v := ?_) rfl (by kernel_rfl) (by kernel_rfl) (by kernel_rfl) (fun _ _ _ h => h) (Or.inl ⟨by rfl, ?_⟩) (by assumption) ?_
                  rotate_left
                  · intro w hSw
                    (try dsimp only at hSw)
                    go_simp <;> with_reducible rfl
                  try simp only [Act.put, List.getElem_toArray, List.getElem_cons_succ, List.getElem_cons_zero, List.setIfInBounds_toArray, List.set_cons_zero, List.set_cons_succ]
                  refine wpAnyH_take (i := 2) (v := ?_) rfl (by kernel_rfl) (by kernel_rfl) (by kernel_rfl) (fun _ _ _ h => h) (Or.inl ⟨by rfl, ?_⟩) (by assumption) ?_
                  rotate_left
                  · intro w hSw
                    (try dsimp only at hSw)
                    go_simp <;> with_reducible rfl
                  try simp only [Act.put, List.getElem_toArray, List.getElem_cons_succ, List.getElem_cons_zero, List.setIfInBounds_toArray, List.set_cons_zero, List.set_cons_succ]
                  refine wpAnyH_take (i := 3) (v := ?_) rfl (by kernel_rfl) (by kernel_rfl) (by kernel_rfl) (fun _ _ _ h => h) (Or.inl ⟨by rfl, ?_⟩) (by assumption) ?_
                  rotate_left
                  · intro w hSw
                    (try dsimp only at hSw)
                    go_simp <;> with_reducible rfl
                  try simp only [Act.put, List.getElem_toArray, List.getElem_cons_succ, List.getElem_cons_zero, List.setIfInBounds_toArray, List.set_cons_zero, List.set_cons_succ]
                  refine wpAnyH_ready (rs := [4, 8]) (by kernel_rfl) (by simp) ?_
                  refine AllReadyH.cons rfl (fun K hK => ?_) (AllReadyH.cons rfl (fun K hK => ?_) AllReadyH.nil)
                  · go_simp
                    (try go_wp2_with fail)
                    refine (HC.out _ HWD.out).mono ?_
                    rintro e w5 ⟨rfl, hb5⟩
                    have HB5 := Lib.hid (HWD.out.trans (hb5.mono HWD.out.size))
                    clear hb5
                    (try go_simp)
                    refine hK.out _ _ ?_ (fun hHeld' => ?_)
                    · (try dsimp only)
                      exact HKEEP.out _ HB5.out
                    clear hK K hHeld
                    have hHeld := hHeld'
                    clear hHeld'
                    refine wpAnyH_take (i := 5) (v := ?_) rfl (by kernel_rfl) (by kernel_rfl) (by kernel_rfl) (fun _ _ _ h => h) (Or.inl ⟨by rfl, ?_⟩) (by assumption) ?_
                    rotate_left
                    · intro w hSw
                      (try dsimp only at hSw)
                      go_simp <;> with_reducible rfl
                    try simp only [Act.put, List.getElem_toArray, List.getElem_cons_succ, List.getElem_cons_zero, List.setIfInBounds_toArray, List.set_cons_zero, List.set_cons_succ]
                    refine wpAnyH_take (i := 6) (v := ?_) rfl (by kernel_rfl) (by kernel_rfl) (by kernel_rfl) (fun _ _ _ h => h) (Or.inl ⟨by rfl, ?_⟩) (by assumption) ?_
                    rotate_left
                    · intro w hSw
                      (try dsimp only at hSw)
                      go_simp <;> with_reducible rfl
                    try simp only [Act.put, List.getElem_toArray, List.getElem_cons_succ, List.getElem_cons_zero, List.setIfInBounds_toArray, List.set_cons_zero, List.set_cons_succ]
                    refine wpAnyH_take (i := 7) (v := ?_) rfl (by kernel_rfl) (by kernel_rfl) (by kernel_rfl) (fun _ _ _ h => h) (Or.inl ⟨by rfl, ?_⟩) (by assumption) ?_
                    rotate_left
                    · intro w hSw
                      (try dsimp only at hSw)
                      go_simp <;> with_reducible rfl
                    try simp only [Act.put, List.getElem_toArray, List.getElem_cons_succ, List.getElem_cons_zero, List.setIfInBounds_toArray, List.set_cons_zero, List.set_cons_succ]
                    refine wpAnyH_ready (rs := [8]) (by kernel_rfl) (by simp) ?_
                    refine AllReadyH.cons rfl (fun K hK => ?_) AllReadyH.nil
                    go_simp
                    have hbn := Blk.new w5 83 #[.string ⟨#[]⟩, .int .u32 0, .int .u32 0, .int .u32 0]
                    have hba := HB5.out.alloc HB5.out.size (.cells #[.string ⟨#[]⟩, .int .u32 0, .int .u32 0, .int .u32 0] 83)
                    refine hK.out _ _ ?_ (fun hHeld' => ?_)
                    · (try dsimp only)
                      exact HKEEP.out _ hba
                    clear hK K hHeld
                    have hHeld := hHeld'
                    clear hHeld'
                    refine wpAnyH_ready (rs := [9]) (by kernel_rfl) (by simp) ?_
                    refine AllReadyH.cons rfl (fun K hK => ?_) AllReadyH.nil
                    go_simp
                    have hmb := Blk.new w5 83 (mkC (mk.getD noMk))
                    have hbW := HB5.out.alloc HB5.out.size (.cells (mkC (mk.getD noMk)) 83)
                    have hbq : wr.heap.size ≤ w5.heap.size := HB5.out.size
                    obtain ⟨bq, hbqe⟩ : ∃ b, w5.heap.size = b := ⟨_, rfl⟩
                    obtain ⟨w6, hw6⟩ : ∃ W, w5.alloc (.cells (mkC (mk.getD noMk)) 83) = W := ⟨_, rfl⟩
                    rw [hbqe] at hmb hbq ⊢
                    rw [hw6] at hmb hbW ⊢
                    clear hbn hba hbqe hw6 HB5
                    refine hK.out _ _ ?_ (fun hHeld' => ?_)
                    · (try dsimp only)
                      exact HKEEP.out _ hbW
                    clear hK K hHeld
                    have hHeld := hHeld'
                    clear hHeld'
                    refine wpAnyH_take (i := 10) (v := ?_) rfl (by kernel_rfl) (by kernel_rfl) (by kernel_rfl) (fun _ _ _ h => h) (Or.inl ⟨by rfl, ?_⟩) (by assumption) ?_
                    rotate_left
                    · intro w hSw
                      (try dsimp only at hSw)
                      go_simp <;> with_reducible rfl
                    try simp only [Act.put, List.getElem_toArray, List.getElem_cons_succ, List.getElem_cons_zero, List.setIfInBounds_toArray, List.set_cons_zero, List.set_cons_succ]
                    refine wpAnyH_done (by kernel_rfl) ?_ _
                    clear hHeld
                    have hbWo := HBWr.out.trans (hbW.mono HBWr.out.size)
                    have hxb := HBXr.out.below hbW hbxl
                    have hqb : w3.heap.size ≠ bq := by omega
                    have hb0r : Blk w6 b0 32 #[wptr g] := HB0.out.below hbWo HB0.out.lt
                    have hb1r : Blk w6 b1 9 #[.string s] := HB1.out.below hbWo HB1.out.lt
                    have HMB := Lib.hid hmb; have HBXr := Lib.hid hxb; have HBWr := Lib.hid hbWo
                    clear hmb hbW hxb hbWo c0 c1 HC HKEEP HWD HWD0
                    cases mk with
                    | none =>
                      have hfin : marksR ms 4 ((bs s).drop k) x0 n0 = (x, m) := by
                        rw [HMR.out, show 4 - j = (3 - j) + 1 by omega, marksR, List.drop_drop, HMKE.out]
                      have HFIN := Lib.hid hfin
                      clear hfin HMR HMKE HMB
                      have c1 := hb1r.cell 0
                      have c0 := hb0r.cell 0
                      simp only [List.getElem?_toArray, List.getElem?_cons_zero] at c0 c1
                      go_wp2
                      have d0 := HBXr.out.cell 0
                      have d1 := HBXr.out.cell 1
                      simp only [List.getElem?_toArray, List.getElem?_cons_zero, List.getElem?_cons_succ] at d0 d1
                      have hUu : U = (pre ++ [⟨x, ((bs s).drop k).take m, k⟩]) ++ unitsK L ms f (k + m) ((bs s).drop (k + m)) := by
                        rw [HUE.out, HS2.out x m HFIN.out, List.append_assoc, List.singleton_append]
                        refine congrArg (fun z => pre ++ (⟨x, ((bs s).drop k).take m, k⟩ :: unitsK L ms f (k + m) ((bs s).drop z))) (?_ : _ = k + m)
                        omega
                      have hlen : pre.length < s.size + 1 := by
                        have := HUL.out
                        rw [hUu, List.length_append, List.length_append] at this
                        simp only [List.length_cons, List.length_nil] at this
                        omega
                      have hj2 : J pre w6.drew := HJ.out pre wo w6.drew none HJJ.out (grown_of_below HBWr.out.drew none) (fun r e => by cases e)
                      obtain ⟨fn, tmps, assign, body, hy, hR⟩ := HY.out pre ⟨x, ((bs s).drop k).take m, k⟩ w6.drew hj2 hlen
                      have hy2 : (Instr.yield l #[.agg #[.int .u32 x.1, .int .u32 x.2, .string (s.extract k (k + m)), .int .i64 (k : Int)]]).run Tryz.prog w6.drew = .ok (.round l fn tmps assign body) w6.drew := by
                        rw [cut_eq]
                        exact hy
                      have HUU := Lib.hid hUu; have HRR := Lib.hid hR
                      have HC0 := Lib.hid hb0r; have HC1 := Lib.hid hb1r
                      clear hy hUu hlen hj2 hR hb0r hb1r c0
                      have hcutL : (k : Int) ≤ (k : Int) + (m : Int) := by omega
                      refine (wpIn_wide (c := .region 16 _ _) (n := 3)).1 ?_
                      refine wpIn_region_still_tail 8 (by kernel_rfl) (by kernel_rfl) ?_
                      simp only [List.take_succ_cons, List.take_zero, List.drop_succ_cons, List.drop_zero]
                      iterate 8 still_step
                      refine wpStill_nil ?_
                      gi_wp2_with fail
                      refine HRR.out.mono ?_
                      rintro e W3 (⟨rfl, hJ3, hk3⟩ | ⟨rfl, hJx3⟩)
                      · have HJ3 := Lib.hid hJ3; have HK3 := Lib.hid hk3
                        clear hJ3 hk3 hy2 d0 d1 c1
                        gi_wp2
                        go_wp2
                        go_roundw
                        case rel =>
                          obtain ⟨k1, k2, k3⟩ := HK3.out
                          exact ⟨_, k + m, f, by omega, by go_num, by omega, HUU.out, (show Blk W3 b0 _ _ from k2.trans HC0.out), (show Blk W3 b1 _ _ from k3.trans HC1.out), (HBW.out.trans (HBWr.out.drew.mono HBW.out.size)).trans k1, HJ3.out⟩
                        case measure => simp [RowKit.intOf]; omega
                      · have HJ3 := Lib.hid hJx3
                        clear hJx3 hy2 d0 d1 c1
                        gi_wp2
                        go_wp2
                        refine bodyPost_ret (results_none rfl _ _ _) rfl ?_
                        exact ⟨⟨_, rfl⟩, .inr ⟨_, ⟨_, HUU.out.symm⟩, HJ3.out⟩⟩
                    | some y =>
                      obtain ⟨hy1, hy2⟩ := hMK y rfl
                      obtain ⟨hyc, hys, -⟩ := HMK.out y hy1
                      have hch := change_any x y.set y.clear w6 HXOK.out hys hyc
                      have hnx : marksR ms 4 ((bs s).drop k) x0 n0 = marksR ms (4 - (j + 1)) ((bs s).drop k) (chgS x y.clear y.set) (m + y.text.size) := by
                        rw [HMR.out, show 4 - j = (3 - j) + 1 by omega, marksR, List.drop_drop, HMKE.out, show 4 - (j + 1) = 3 - j by omega]
                      have hcok : ok32 (chgS x y.clear y.set) := chg_ok HXOK.out hys
                      have hty : m + y.text.size ≤ s.size - k := by
                        rw [List.length_drop, size_bs] at hy2; omega
                      have d0 := HBXr.out.cell 0; have d1 := HBXr.out.cell 1
                      have e0 := HMB.out.cell 0; have e1 := HMB.out.cell 1; have e2 := HMB.out.cell 2; have e3 := HMB.out.cell 3
                      simp only [Option.getD_some, List.getElem?_toArray, List.getElem?_cons_zero, List.getElem?_cons_succ] at d0 d1 e0 e1 e2 e3
                      generalize chgS x y.clear y.set = cx at *
                      have HCH := Lib.hid hch; have HNX := Lib.hid hnx; have HCOK := Lib.hid hcok
                      clear hch hnx hcok hyc hys hy1 hy2 HMR HMKE hMK hb0r hb1r
                      go_wp2_with fail
                      refine HCH.out.mono ?_
                      rintro e w7 ⟨v, rfl, hb7⟩
                      have hx7 := HBXr.out.below hb7 HBXr.out.lt
                      have hm7 := HMB.out.below hb7 HMB.out.lt
                      have hxs := (hx7.set_ 0 (.int .u32 cx.1)).set_ 1 (.int .u32 cx.2)
                      have hbe := ((HBWr.out.trans (hb7.mono HBWr.out.size)).setCell (p := ⟨w3.heap.size, 0, none⟩) hbxo (.int .u32 cx.1)).setCell (p := ⟨w3.heap.size, 1, none⟩) hbxo (.int .u32 cx.2)
                      have d0' := hx7.cell 0; have d1' := hx7.cell 1
                      have fr0 := hx7.frozen 0; have fr1 := hx7.frozen 1
                      have e0' := hm7.cell 0
                      have hqb2 : ¬ bq = w3.heap.size := fun e => hqb e.symm
                      simp only [Option.getD_some, List.getElem?_toArray, List.getElem?_cons_zero, List.getElem?_cons_succ] at d0' d1' e0'
                      have HXS := Lib.hid hxs; have HBE := Lib.hid hbe
                      clear hb7 hx7 hm7 hxs hbe d0 d1 e0 e1 e2 e3 HCH HMB
                      go_wp2
                      go_roundw
                      case rel => exact ⟨j + 1, m + y.text.size, cx, by omega, by go_num, by go_num, by omega, hty, HCOK.out, HNX.out, HXS.out, HBE.out⟩
                      case measure => simp [RowKit.intOf]; omega
                  · go_simp
                    have hbn0 := (Blk.new wr 83 #[.string ⟨#[]⟩, .int .u32 0, .int .u32 0, .int .u32 0]).drew
                    have hba0 := (HWD0.out.alloc (Nat.le_refl _) (.cells #[.string ⟨#[]⟩, .int .u32 0, .int .u32 0, .int .u32 0] 83)).drew
                    have hza : (wr.alloc (.cells #[.string ⟨#[]⟩, .int .u32 0, .int .u32 0, .int .u32 0] 83)).drew.heap.size = wr.heap.size + 1 := World.size_alloc _ _
                    obtain ⟨w4, hw4⟩ : ∃ W, (wr.alloc (.cells #[.string ⟨#[]⟩, .int .u32 0, .int .u32 0, .int .u32 0] 83)).drew = W := ⟨_, rfl⟩
                    rw [hw4] at hbn0 hba0 hza ⊢
                    clear hw4
                    have HBN := Lib.hid hbn0; have HBA4 := Lib.hid hba0
                    clear hbn0 hba0
                    refine hK.out _ _ ?_ (fun hHeld' => ?_)
                    · (try dsimp only)
                      exact HKEEP.out _ HBA4.out
                    clear hK K hHeld
                    have hHeld := hHeld'
                    clear hHeld'
                    refine wpAnyH_ready (rs := [4]) (by kernel_rfl) (by simp) ?_
                    refine AllReadyH.cons rfl (fun K hK => ?_) AllReadyH.nil
                    go_simp
                    (try go_wp2_with fail)
                    refine (HC.out _ HBA4.out).mono ?_
                    rintro e w5 ⟨rfl, hb5⟩
                    have HB5 := Lib.hid (HBA4.out.trans (hb5.mono HBA4.out.size))
                    have hz5 := HBN.out.below hb5 HBN.out.lt
                    have z0 := hz5.cell 0; have z1 := hz5.cell 1; have z2 := hz5.cell 2; have z3 := hz5.cell 3
                    have fz0 := hz5.frozen 0; have fz1 := hz5.frozen 1; have fz2 := hz5.frozen 2; have fz3 := hz5.frozen 3
                    simp only [List.getElem?_toArray, List.getElem?_cons_zero, List.getElem?_cons_succ] at z0 z1 z2 z3
                    have hmb := set4 (m := noMk) (mk.getD noMk) hz5
                    have hbW := below4 (mk.getD noMk) HB5.out (Nat.le_refl wr.heap.size)
                    have HMB := Lib.hid hmb; have HBW6 := Lib.hid hbW
                    clear hb5 hz5 hmb hbW
                    (try go_simp)
                    refine hK.out _ _ ?_ (fun hHeld' => ?_)
                    · (try dsimp only)
                      exact HKEEP.out _ HB5.out
                    clear hK K hHeld
                    have hHeld := hHeld'
                    clear hHeld'
                    refine wpAnyH_take (i := 5) (v := ?_) rfl (by kernel_rfl) (by kernel_rfl) (by kernel_rfl) (fun _ _ _ h => h) (Or.inl ⟨by rfl, ?_⟩) (by assumption) ?_
                    rotate_left
                    · intro w hSw
                      (try dsimp only at hSw)
                      go_simp <;> with_reducible rfl
                    try simp only [Act.put, List.getElem_toArray, List.getElem_cons_succ, List.getElem_cons_zero, List.setIfInBounds_toArray, List.set_cons_zero, List.set_cons_succ]
                    refine wpAnyH_take (i := 6) (v := ?_) rfl (by kernel_rfl) (by kernel_rfl) (by kernel_rfl) (fun _ _ _ h => h) (Or.inl ⟨by rfl, ?_⟩) (by assumption) ?_
                    rotate_left
                    · intro w hSw
                      (try dsimp only at hSw)
                      go_simp <;> with_reducible rfl
                    try simp only [Act.put, List.getElem_toArray, List.getElem_cons_succ, List.getElem_cons_zero, List.setIfInBounds_toArray, List.set_cons_zero, List.set_cons_succ]
                    refine wpAnyH_take (i := 7) (v := ?_) rfl (by kernel_rfl) (by kernel_rfl) (by kernel_rfl) (fun _ _ _ h => h) (Or.inl ⟨by rfl, ?_⟩) (by assumption) ?_
                    rotate_left
                    · intro w hSw
                      (try dsimp only at hSw)
                      go_simp <;> with_reducible rfl
                    try simp only [Act.put, List.getElem_toArray, List.getElem_cons_succ, List.getElem_cons_zero, List.setIfInBounds_toArray, List.set_cons_zero, List.set_cons_succ]
                    refine wpAnyH_ready (rs := [9]) (by kernel_rfl) (by simp) ?_
                    refine AllReadyH.cons rfl (fun K hK => ?_) AllReadyH.nil
                    go_simp
                    have hmb := HMB.out
                    have hbW := HBW6.out
                    have hbq : wr.heap.size ≤ wr.heap.size := Nat.le_refl _
                    obtain ⟨bq, hbqe⟩ : ∃ b, wr.heap.size = b := ⟨_, rfl⟩
                    clear HMB HBW6 z0 z1 z2 z3 fz0 fz1 fz2 fz3 HBN HBA4 HB5 hza
                    refine hK.out _ _ ?_ (fun hHeld' => ?_)
                    · (try dsimp only)
                      exact HKEEP.out _ hbW
                    clear hK K hHeld
                    have hHeld := hHeld'
                    clear hHeld'
                    refine wpAnyH_take (i := 10) (v := ?_) rfl (by kernel_rfl) (by kernel_rfl) (by kernel_rfl) (fun _ _ _ h => h) (Or.inl ⟨by rfl, ?_⟩) (by assumption) ?_
                    rotate_left
                    · intro w hSw
                      (try dsimp only at hSw)
                      go_simp <;> with_reducible rfl
                    try simp only [Act.put, List.getElem_toArray, List.getElem_cons_succ, List.getElem_cons_zero, List.setIfInBounds_toArray, List.set_cons_zero, List.set_cons_succ]
                    refine wpAnyH_done (by kernel_rfl) ?_ _
                    clear hHeld
                    generalize (((w5.setCell ⟨wr.heap.size, 0, none⟩ (.string (mk.getD noMk).text)).setCell ⟨wr.heap.size, 1, none⟩ (.int .u32 (mk.getD noMk).clear)).setCell ⟨wr.heap.size, 2, none⟩ (.int .u32 (mk.getD noMk).set.1)).setCell ⟨wr.heap.size, 3, none⟩ (.int .u32 (mk.getD noMk).set.2) = w6 at hmb hbW ⊢
                    rw [hbqe] at hmb ⊢
                    have hbq : wr.heap.size ≤ bq := by omega
                    clear hbqe
                    have hbWo := HBWr.out.trans (hbW.mono HBWr.out.size)
                    have hxb := HBXr.out.below hbW hbxl
                    have hqb : w3.heap.size ≠ bq := by omega
                    have hb0r : Blk w6 b0 32 #[wptr g] := HB0.out.below hbWo HB0.out.lt
                    have hb1r : Blk w6 b1 9 #[.string s] := HB1.out.below hbWo HB1.out.lt
                    have HMB := Lib.hid hmb; have HBXr := Lib.hid hxb; have HBWr := Lib.hid hbWo
                    clear hmb hbW hxb hbWo c0 c1 HC HKEEP HWD HWD0
                    cases mk with
                    | none =>
                      have hfin : marksR ms 4 ((bs s).drop k) x0 n0 = (x, m) := by
                        rw [HMR.out, show 4 - j = (3 - j) + 1 by omega, marksR, List.drop_drop, HMKE.out]
                      have HFIN := Lib.hid hfin
                      clear hfin HMR HMKE HMB
                      have c1 := hb1r.cell 0
                      have c0 := hb0r.cell 0
                      simp only [List.getElem?_toArray, List.getElem?_cons_zero] at c0 c1
                      go_wp2
                      have d0 := HBXr.out.cell 0
                      have d1 := HBXr.out.cell 1
                      simp only [List.getElem?_toArray, List.getElem?_cons_zero, List.getElem?_cons_succ] at d0 d1
                      have hUu : U = (pre ++ [⟨x, ((bs s).drop k).take m, k⟩]) ++ unitsK L ms f (k + m) ((bs s).drop (k + m)) := by
                        rw [HUE.out, HS2.out x m HFIN.out, List.append_assoc, List.singleton_append]
                        refine congrArg (fun z => pre ++ (⟨x, ((bs s).drop k).take m, k⟩ :: unitsK L ms f (k + m) ((bs s).drop z))) (?_ : _ = k + m)
                        omega
                      have hlen : pre.length < s.size + 1 := by
                        have := HUL.out
                        rw [hUu, List.length_append, List.length_append] at this
                        simp only [List.length_cons, List.length_nil] at this
                        omega
                      have hj2 : J pre w6.drew := HJ.out pre wo w6.drew none HJJ.out (grown_of_below HBWr.out.drew none) (fun r e => by cases e)
                      obtain ⟨fn, tmps, assign, body, hy, hR⟩ := HY.out pre ⟨x, ((bs s).drop k).take m, k⟩ w6.drew hj2 hlen
                      have hy2 : (Instr.yield l #[.agg #[.int .u32 x.1, .int .u32 x.2, .string (s.extract k (k + m)), .int .i64 (k : Int)]]).run Tryz.prog w6.drew = .ok (.round l fn tmps assign body) w6.drew := by
                        rw [cut_eq]
                        exact hy
                      have HUU := Lib.hid hUu; have HRR := Lib.hid hR
                      have HC0 := Lib.hid hb0r; have HC1 := Lib.hid hb1r
                      clear hy hUu hlen hj2 hR hb0r hb1r c0
                      have hcutL : (k : Int) ≤ (k : Int) + (m : Int) := by omega
                      refine (wpIn_wide (c := .region 16 _ _) (n := 3)).1 ?_
                      refine wpIn_region_still_tail 8 (by kernel_rfl) (by kernel_rfl) ?_
                      simp only [List.take_succ_cons, List.take_zero, List.drop_succ_cons, List.drop_zero]
                      iterate 8 still_step
                      refine wpStill_nil ?_
                      gi_wp2_with fail
                      refine HRR.out.mono ?_
                      rintro e W3 (⟨rfl, hJ3, hk3⟩ | ⟨rfl, hJx3⟩)
                      · have HJ3 := Lib.hid hJ3; have HK3 := Lib.hid hk3
                        clear hJ3 hk3 hy2 d0 d1 c1
                        gi_wp2
                        go_wp2
                        go_roundw
                        case rel =>
                          obtain ⟨k1, k2, k3⟩ := HK3.out
                          exact ⟨_, k + m, f, by omega, by go_num, by omega, HUU.out, (show Blk W3 b0 _ _ from k2.trans HC0.out), (show Blk W3 b1 _ _ from k3.trans HC1.out), (HBW.out.trans (HBWr.out.drew.mono HBW.out.size)).trans k1, HJ3.out⟩
                        case measure => simp [RowKit.intOf]; omega
                      · have HJ3 := Lib.hid hJx3
                        clear hJx3 hy2 d0 d1 c1
                        gi_wp2
                        go_wp2
                        refine bodyPost_ret (results_none rfl _ _ _) rfl ?_
                        exact ⟨⟨_, rfl⟩, .inr ⟨_, ⟨_, HUU.out.symm⟩, HJ3.out⟩⟩
                    | some y =>
                      obtain ⟨hy1, hy2⟩ := hMK y rfl
                      obtain ⟨hyc, hys, -⟩ := HMK.out y hy1
                      have hch := change_any x y.set y.clear w6 HXOK.out hys hyc
                      have hnx : marksR ms 4 ((bs s).drop k) x0 n0 = marksR ms (4 - (j + 1)) ((bs s).drop k) (chgS x y.clear y.set) (m + y.text.size) := by
                        rw [HMR.out, show 4 - j = (3 - j) + 1 by omega, marksR, List.drop_drop, HMKE.out, show 4 - (j + 1) = 3 - j by omega]
                      have hcok : ok32 (chgS x y.clear y.set) := chg_ok HXOK.out hys
                      have hty : m + y.text.size ≤ s.size - k := by
                        rw [List.length_drop, size_bs] at hy2; omega
                      have d0 := HBXr.out.cell 0; have d1 := HBXr.out.cell 1
                      have e0 := HMB.out.cell 0; have e1 := HMB.out.cell 1; have e2 := HMB.out.cell 2; have e3 := HMB.out.cell 3
                      simp only [Option.getD_some, List.getElem?_toArray, List.getElem?_cons_zero, List.getElem?_cons_succ] at d0 d1 e0 e1 e2 e3
                      generalize chgS x y.clear y.set = cx at *
                      have HCH := Lib.hid hch; have HNX := Lib.hid hnx; have HCOK := Lib.hid hcok
                      clear hch hnx hcok hyc hys hy1 hy2 HMR HMKE hMK hb0r hb1r
                      go_wp2_with fail
                      refine HCH.out.mono ?_
                      rintro e w7 ⟨v, rfl, hb7⟩
                      have hx7 := HBXr.out.below hb7 HBXr.out.lt
                      have hm7 := HMB.out.below hb7 HMB.out.lt
                      have hxs := (hx7.set_ 0 (.int .u32 cx.1)).set_ 1 (.int .u32 cx.2)
                      have hbe := ((HBWr.out.trans (hb7.mono HBWr.out.size)).setCell (p := ⟨w3.heap.size, 0, none⟩) hbxo (.int .u32 cx.1)).setCell (p := ⟨w3.heap.size, 1, none⟩) hbxo (.int .u32 cx.2)
                      have d0' := hx7.cell 0; have d1' := hx7.cell 1
                      have fr0 := hx7.frozen 0; have fr1 := hx7.frozen 1
                      have e0' := hm7.cell 0
                      have hqb2 : ¬ bq = w3.heap.size := fun e => hqb e.symm
                      simp only [Option.getD_some, List.getElem?_toArray, List.getElem?_cons_zero, List.getElem?_cons_succ] at d0' d1' e0'
                      have HXS := Lib.hid hxs; have HBE := Lib.hid hbe
                      clear hb7 hx7 hm7 hxs hbe d0 d1 e0 e1 e2 e3 HCH HMB
                      go_wp2
                      go_roundw
                      case rel => exact ⟨j + 1, m + y.text.size, cx, by omega, by go_num, by go_num, by omega, hty, HCOK.out, HNX.out, HXS.out, HBE.out⟩
                      case measure => simp [RowKit.intOf]; omega
                · obtain rfl : j = 4 := by omega
                  have hfin : marksR ms 4 ((bs s).drop k) x0 n0 = (x, m) := HMR.out
                  have HFIN := Lib.hid hfin
                  clear hfin HMR
                  go_wp2
                  have d0 := HBXr.out.cell 0
                  have d1 := HBXr.out.cell 1
                  simp only [List.getElem?_toArray, List.getElem?_cons_zero, List.getElem?_cons_succ] at d0 d1
                  have hUu : U = (pre ++ [⟨x, ((bs s).drop k).take m, k⟩]) ++ unitsK L ms f (k + m) ((bs s).drop (k + m)) := by
                    rw [HUE.out, HS2.out x m HFIN.out, List.append_assoc, List.singleton_append]
                    refine congrArg (fun z => pre ++ (⟨x, ((bs s).drop k).take m, k⟩ :: unitsK L ms f (k + m) ((bs s).drop z))) (?_ : _ = k + m)
                    omega
                  have hlen : pre.length < s.size + 1 := by
                    have := HUL.out
                    rw [hUu, List.length_append, List.length_append] at this
                    simp only [List.length_cons, List.length_nil] at this
                    omega
                  have hj2 : J pre wr.drew := HJ.out pre wo wr.drew none HJJ.out (grown_of_below HBWr.out.drew none) (fun r e => by cases e)
                  obtain ⟨fn, tmps, assign, body, hy, hR⟩ := HY.out pre ⟨x, ((bs s).drop k).take m, k⟩ wr.drew hj2 hlen
                  have hy2 : (Instr.yield l #[.agg #[.int .u32 x.1, .int .u32 x.2, .string (s.extract k (k + m)), .int .i64 (k : Int)]]).run Tryz.prog wr.drew = .ok (.round l fn tmps assign body) wr.drew := by
                    rw [cut_eq]
                    exact hy
                  have HUU := Lib.hid hUu; have HRR := Lib.hid hR
                  have HC0 := Lib.hid hb0r; have HC1 := Lib.hid hb1r
                  clear hy hUu hlen hj2 hR hb0r hb1r c0
                  have hcutL : (k : Int) ≤ (k : Int) + (m : Int) := by omega
                  refine (wpIn_wide (c := .region 16 _ _) (n := 3)).1 ?_
                  refine wpIn_region_still_tail 8 (by kernel_rfl) (by kernel_rfl) ?_
                  simp only [List.take_succ_cons, List.take_zero, List.drop_succ_cons, List.drop_zero]
                  iterate 8 still_step
                  refine wpStill_nil ?_
                  gi_wp2_with fail
                  refine HRR.out.mono ?_
                  rintro e W3 (⟨rfl, hJ3, hk3⟩ | ⟨rfl, hJx3⟩)
                  · have HJ3 := Lib.hid hJ3; have HK3 := Lib.hid hk3
                    clear hJ3 hk3 hy2 d0 d1 c1
                    gi_wp2
                    go_wp2
                    go_roundw
                    case rel =>
                      obtain ⟨k1, k2, k3⟩ := HK3.out
                      exact ⟨_, k + m, f, by omega, by go_num, by omega, HUU.out, (show Blk W3 b0 _ _ from k2.trans HC0.out), (show Blk W3 b1 _ _ from k3.trans HC1.out), (HBW.out.trans (HBWr.out.drew.mono HBW.out.size)).trans k1, HJ3.out⟩
                    case measure => simp [RowKit.intOf]; omega
                  · have HJ3 := Lib.hid hJx3
                    clear hJx3 hy2 d0 d1 c1
                    gi_wp2
                    go_wp2
                    refine bodyPost_ret (results_none rfl _ _ _) rfl ?_
                    exact ⟨⟨_, rfl⟩, .inr ⟨_, ⟨_, HUU.out.symm⟩, HJ3.out⟩⟩
        · have hkp : (0 : Int) < (k : Int) := by omega
          have h46 : (((s[k].toNat : Nat) : Int) == 46) = false := by
            rw [beq_eq_false_iff_ne]
            exact fun e => hd46 ⟨by omega, by
              have e2 : s[k].toNat = 46 := by omega
              exact UInt8.toNat_inj.1 e2⟩
          go_wp2
          focus
            have hkl2 : k ≤ s.size := by omega
            have hkI2 : (k : Int) ≤ (s.size : Int) := by omega
            have hN := HN.out.below HBW.out
            obtain ⟨gi, A, c, bm, n, fm, h1, hI, -, -, hmk, h32⟩ := hN.parts
            have g0 := h1.cell 0
            simp only [List.getElem?_toArray, List.getElem?_cons_zero] at g0
            have hsx : (s.extract k s.size).size ≤ maxLen := Nat.le_trans (size_extract_le _ _ _) hs
            have hlq : ∀ n, Calls Tryz.prog 92 #[wptr gi, .string (s.extract k s.size)] (wo.drewN n) fun e w'' => e = .returned (.tuple #[.string ((s.extract k s.size).extract 0 (longN L ((bs s).drop k))), .bool (decide (longN L ((bs s).drop k) ≠ 0))]) ∧ ∃ m, w'' = wo.drewN m := fun n => (longest_any (w := wo.drewN n) (s.extract k s.size) (show InvM (wo.drewN n) S gi fs L from hI) hsx).mono (by
              rintro e w' ⟨rfl, q, rfl⟩
              unfold longV
              rw [bs_drop]
              exact ⟨rfl, _, World.drewN_drewN _ _ _⟩)
            have HI := Lib.hid hI; have HNR := Lib.hid hN; have HMK := Lib.hid hmk; have HIOK := Lib.hid hI.ok
            clear h1 hI hN hmk
            by_cases hn0 : longN L ((bs s).drop k) = 0
            · rw [hn0, decide_eq_false (show ¬ (0 : Nat) ≠ 0 from fun h => h rfl)] at hlq
              have HLQ := Lib.hid hlq
              clear hlq
              go_quiet ((go_at_call 92; exact HLQ.out _))
              obtain ⟨w2, hw2⟩ : ∃ W, wo.drewN nq = W := ⟨_, rfl⟩
              have hb2 : Below wo.heap.size wo w2 := by rw [← hw2]; exact ⟨rfl, rfl, rfl, Nat.le_refl _, fun _ _ => rfl⟩
              rw [hw2]
              have HB2 := Lib.hid hb2
              clear hw2 hb2 c0 c1 g0 HI HLQ
              have hUu : U = pre ++ [⟨(0, 0), [], k⟩] := by rw [HUE.out, HNONE.out hn0]
              have hlen : pre.length < s.size + 1 := by
                have := HUL.out
                rw [hUu, List.length_append] at this
                simp only [List.length_cons, List.length_nil] at this
                omega
              have hj2 : J pre w2 := HJ.out pre wo w2 none HJJ.out (grown_of_below HB2.out none) (fun r e => by cases e)
              obtain ⟨fn, tmps, assign, body, hy, hR⟩ := HY.out pre ⟨(0, 0), [], k⟩ w2 hj2 hlen
              have hy2 : (Instr.yield l #[.agg #[.int .u32 0, .int .u32 0, .string ⟨#[]⟩, .int .i64 (k : Int)]]).run Tryz.prog w2 = .ok (.round l fn tmps assign body) w2 := hy
              have HUU := Lib.hid hUu; have HRR := Lib.hid hR
              clear hy hUu hlen hj2 hR hn0 HNONE HSOME
              iterate 16 (first | go_values | go_skip | go_guarded | go_step | go_upon | go_back)
              with_reducible refine (wpIn_wide (c := .region 6 _ _) (n := 3)).1 ?_
              gi_wp2_with fail
              refine HRR.out.mono ?_
              rintro e W3 (⟨rfl, hJ3, hk3⟩ | ⟨rfl, hJx3⟩)
              · have HJ3 := Lib.hid hJ3
                clear hJ3 hk3 hy2
                gi_wp2
                go_wp2
                refine bodyPost_ret (results_none rfl _ _ _) rfl ?_
                exact ⟨⟨_, rfl⟩, .inl ⟨U, rfl, by rw [HUU.out]; exact HJ3.out⟩⟩
              · have HJ3 := Lib.hid hJx3
                clear hJx3 hy2
                gi_wp2
                go_wp2
                refine bodyPost_ret (results_none rfl _ _ _) rfl ?_
                exact ⟨⟨_, rfl⟩, .inr ⟨_, by rw [HUU.out]; exact List.prefix_refl _, HJ3.out⟩⟩
            · rw [decide_eq_true hn0] at hlq
              have hsome := fun x m => HSOME.out x m hn0
              have hlong := longN_sym hn0
              have hlt2 := longN_le L ((bs s).drop k)
              have hsnd := fun W (hW : Below wo.heap.size wo W) => invSound_any ((s.extract k s.size).extract 0 (longN L ((bs s).drop k))) (HI.out.below hW) (Nat.le_trans (size_extract_le _ _ _) hsx) (by rw [bs_pre, bs_drop]; exact hlong)
              rw [bs_pre, bs_drop] at hsnd
              have hok := soundOf_ok HIOK.out (((bs s).drop k).take (longN L ((bs s).drop k)))
              have hsz0 : ((s.extract k s.size).extract 0 (longN L ((bs s).drop k))).size = longN L ((bs s).drop k) := by
                rw [← size_bs, bs_pre, bs_drop, List.length_take]; omega
              obtain ⟨sy, hsy⟩ : ∃ sy, (s.extract k s.size).extract 0 (longN L ((bs s).drop k)) = sy := ⟨_, rfl⟩
              obtain ⟨x0, hx0⟩ : ∃ x, soundOf L (((bs s).drop k).take (longN L ((bs s).drop k))) = x := ⟨_, rfl⟩
              rw [hsy] at hsz0 hsnd hlq
              rw [hx0] at hsnd hok hsome
              have hdl : ((bs s).drop k).length = s.size - k := by rw [List.length_drop, size_bs]
              rw [hdl] at hlt2
              generalize longN L ((bs s).drop k) = n0 at *
              have HLQ := Lib.hid hlq; have HS2 := Lib.hid hsome; have HSN := Lib.hid hsnd; have HOK := Lib.hid hok; have HDL := Lib.hid hdl
              clear hlq hsome hlong hsnd hok hsy hx0 hdl HSOME HNONE
              go_quiet ((go_at_call 92; exact HLQ.out _))
              obtain ⟨w2, hw2⟩ : ∃ W, wo.drewN nq = W := ⟨_, rfl⟩
              have hb2 : Below wo.heap.size wo w2 := by rw [← hw2]; exact ⟨rfl, rfl, rfl, Nat.le_refl _, fun _ _ => rfl⟩
              rw [hw2]
              have c0' : w2.cell? ⟨b0, 0, none⟩ = some (wptr g) := by rw [← hw2]; exact c0
              have g0' : w2.cell? ⟨g, 0, none⟩ = some (wptr gi) := by rw [← hw2]; exact g0
              have HB2 := Lib.hid hb2
              clear hw2 hb2 HLQ c0 g0 c1
              go_wp2_with fail
              refine (HSN.out w2 HB2.out).mono ?_
              rintro e w3 ⟨rfl, hb3⟩
              have hb3' := HB2.out.trans (hb3.mono HB2.out.size)
              have HB3 := Lib.hid hb3'
              clear hb3 hb3' c0' g0'
              have hbx := Blk.new w3 30 #[.int .u32 x0.1, .int .u32 x0.2]
              have hba := HB3.out.alloc HB3.out.size (.cells #[.int .u32 x0.1, .int .u32 x0.2] 30)
              have hbxo : wo.heap.size ≤ w3.heap.size := HB3.out.size
              have HBX := Lib.hid hbx; have HBA := Lib.hid hba
              clear hbx hba
              go_wp2
              go_loopw [9, 56] (fun a i wr => ∃ (j m : Nat) (x : Snd), j ≤ 4 ∧ i = .int .i64 j ∧ a = .int .i64 ((k : Int) + (m : Int)) ∧ n0 ≤ m ∧ m ≤ s.size - k ∧ ok32 x ∧ marksR ms 4 ((bs s).drop k) x0 n0 = marksR ms (4 - j) ((bs s).drop k) x m ∧ Blk wr w3.heap.size 30 #[.int .u32 x.1, .int .u32 x.2] ∧ Below wo.heap.size wo wr) (fun _ i _ => 4 - (RowKit.intOf i).toNat)
              case atStart => exact ⟨0, n0, x0, by omega, rfl, by rw [← hsz0], Nat.le_refl _, hlt2, HOK.out, rfl, HBX.out, HBA.out⟩
              case round =>
                obtain ⟨j, m, x, hj4, rfl, rfl, hnm, hm, hxok, hmr, hbx, hbw⟩ := hrel
                have HMR := Lib.hid hmr; have HBXr := Lib.hid hbx; have HBWr := Lib.hid hbw; have HXOK := Lib.hid hxok
                have hbxl := hbx.lt
                clear hmr hbx hbw hxok
                have hb0r : Blk wr b0 32 #[wptr g] := HB0.out.below HBWr.out HB0.out.lt
                have hb1r : Blk wr b1 9 #[.string s] := HB1.out.below HBWr.out HB1.out.lt
                have c0 := hb0r.cell 0
                have c1 := hb1r.cell 0
                simp only [List.getElem?_toArray, List.getElem?_cons_zero] at c0 c1
                have hcutI : (0 : Int) ≤ (k : Int) + (m : Int) := by omega
                have hcutJ : (k : Int) + (m : Int) ≤ (s.size : Int) := by omega
                have hcutN : ((k : Int) + (m : Int)).toNat = k + m := by omega
                by_cases hj : j < 4
                · have hjI : (j : Int) < 4 := by omega
                  have hNr := HNR.out.below HBWr.out
                  obtain ⟨mk, hmk⟩ : ∃ b, markAt ms ((bs s).drop (k + m)) = b := ⟨_, rfl⟩
                  have hcall := fun W (hW : Below wr.heap.size wr W) => mark_any (s.extract (k + m) s.size) (hNr.below hW)
                  simp only [bs_drop, hmk] at hcall
                  have hkeep : ∀ W, Below wr.heap.size wr W → W.cell? ⟨b0, 0, none⟩ = some (wptr g) ∧ W.cell? ⟨b1, 0, none⟩ = some (.string s) := fun W hW => ⟨(hW.cell (p := ⟨b0, 0, none⟩) hb0r.lt).trans c0, (hW.cell (p := ⟨b1, 0, none⟩) hb1r.lt).trans c1⟩
                  have hMK : ∀ y, mk = some y → y ∈ ms ∧ y.text.size ≤ ((bs s).drop (k + m)).length := fun y e => markAt_mem (hmk.trans e)
                  have HC := Lib.hid hcall; have HKEEP := Lib.hid hkeep; have HMKE := Lib.hid hmk
                  clear hNr hcall hkeep hmk
                  have hwd : Below wr.heap.size wr wr.drew := (Below.refl _ wr).drew
                  have HWD := Lib.hid hwd; have HWD0 := Lib.hid (Below.refl wr.heap.size wr)
                  clear hwd
                  go_wp2
                  refine wp_region_held_drew (S := (fun W => W.cell? ⟨b0, 0, none⟩ = some (wptr g) ∧ W.cell? ⟨b1, 0, none⟩ = some (.string s))) (by kernel_rfl) ?_ (fun hHeld => ?_)
                  · exact ⟨c0, c1⟩
                  refine wpAnyH_take (i := 0) (v := ?_) rfl (by kernel_rfl) (by kernel_rfl) (by kernel_rfl) (fun _ _ _ h => h) (Or.inl ⟨by rfl, ?_⟩) (by assumption) ?_
                  rotate_left
                  · intro w hSw
                    (try dsimp only at hSw)
                    go_simp <;> with_reducible rfl
                  try simp only [Act.put, List.getElem_toArray, List.getElem_cons_succ, List.getElem_cons_zero, List.setIfInBounds_toArray, List.set_cons_zero, List.set_cons_succ]
                  refine wpAnyH_take (i := 1) (v := ?_) rfl (by kernel_rfl) (by kernel_rfl) (by kernel_rfl) (fun _ _ _ h => h) (Or.inl ⟨by rfl, ?_⟩) (by assumption) ?_
                  rotate_left
                  · intro w hSw
                    (try dsimp only at hSw)
                    go_simp <;> with_reducible rfl
                  try simp only [Act.put, List.getElem_toArray, List.getElem_cons_succ, List.getElem_cons_zero, List.setIfInBounds_toArray, List.set_cons_zero, List.set_cons_succ]
                  refine wpAnyH_take (i := 2) (v := ?_) rfl (by kernel_rfl) (by kernel_rfl) (by kernel_rfl) (fun _ _ _ h => h) (Or.inl ⟨by rfl, ?_⟩) (by assumption) ?_
                  rotate_left
                  · intro w hSw
                    (try dsimp only at hSw)
                    go_simp <;> with_reducible rfl
                  try simp only [Act.put, List.getElem_toArray, List.getElem_cons_succ, List.getElem_cons_zero, List.setIfInBounds_toArray, List.set_cons_zero, List.set_cons_succ]
                  refine wpAnyH_take (i := 3) (v := ?_) rfl (by kernel_rfl) (by kernel_rfl) (by kernel_rfl) (fun _ _ _ h => h) (Or.inl ⟨by rfl, ?_⟩) (by assumption) ?_
                  rotate_left
                  · intro w hSw
                    (try dsimp only at hSw)
                    go_simp <;> with_reducible rfl
                  try simp only [Act.put, List.getElem_toArray, List.getElem_cons_succ, List.getElem_cons_zero, List.setIfInBounds_toArray, List.set_cons_zero, List.set_cons_succ]
                  refine wpAnyH_ready (rs := [4, 8]) (by kernel_rfl) (by simp) ?_
                  refine AllReadyH.cons rfl (fun K hK => ?_) (AllReadyH.cons rfl (fun K hK => ?_) AllReadyH.nil)
                  · go_simp
                    (try go_wp2_with fail)
                    refine (HC.out _ HWD.out).mono ?_
                    rintro e w5 ⟨rfl, hb5⟩
                    have HB5 := Lib.hid (HWD.out.trans (hb5.mono HWD.out.size))
                    clear hb5
                    (try go_simp)
                    refine hK.out _ _ ?_ (fun hHeld' => ?_)
                    · (try dsimp only)
                      exact HKEEP.out _ HB5.out
                    clear hK K hHeld
                    have hHeld := hHeld'
                    clear hHeld'
                    refine wpAnyH_take (i := 5) (v := ?_) rfl (by kernel_rfl) (by kernel_rfl) (by kernel_rfl) (fun _ _ _ h => h) (Or.inl ⟨by rfl, ?_⟩) (by assumption) ?_
                    rotate_left
                    · intro w hSw
                      (try dsimp only at hSw)
                      go_simp <;> with_reducible rfl
                    try simp only [Act.put, List.getElem_toArray, List.getElem_cons_succ, List.getElem_cons_zero, List.setIfInBounds_toArray, List.set_cons_zero, List.set_cons_succ]
                    refine wpAnyH_take (i := 6) (v := ?_) rfl (by kernel_rfl) (by kernel_rfl) (by kernel_rfl) (fun _ _ _ h => h) (Or.inl ⟨by rfl, ?_⟩) (by assumption) ?_
                    rotate_left
                    · intro w hSw
                      (try dsimp only at hSw)
                      go_simp <;> with_reducible rfl
                    try simp only [Act.put, List.getElem_toArray, List.getElem_cons_succ, List.getElem_cons_zero, List.setIfInBounds_toArray, List.set_cons_zero, List.set_cons_succ]
                    refine wpAnyH_take (i := 7) (v := ?_) rfl (by kernel_rfl) (by kernel_rfl) (by kernel_rfl) (fun _ _ _ h => h) (Or.inl ⟨by rfl, ?_⟩) (by assumption) ?_
                    rotate_left
                    · intro w hSw
                      (try dsimp only at hSw)
                      go_simp <;> with_reducible rfl
                    try simp only [Act.put, List.getElem_toArray, List.getElem_cons_succ, List.getElem_cons_zero, List.setIfInBounds_toArray, List.set_cons_zero, List.set_cons_succ]
                    refine wpAnyH_ready (rs := [8]) (by kernel_rfl) (by simp) ?_
                    refine AllReadyH.cons rfl (fun K hK => ?_) AllReadyH.nil
                    go_simp
                    have hbn := Blk.new w5 83 #[.string ⟨#[]⟩, .int .u32 0, .int .u32 0, .int .u32 0]
                    have hba := HB5.out.alloc HB5.out.size (.cells #[.string ⟨#[]⟩, .int .u32 0, .int .u32 0, .int .u32 0] 83)
                    refine hK.out _ _ ?_ (fun hHeld' => ?_)
                    · (try dsimp only)
                      exact HKEEP.out _ hba
                    clear hK K hHeld
                    have hHeld := hHeld'
                    clear hHeld'
                    refine wpAnyH_ready (rs := [9]) (by kernel_rfl) (by simp) ?_
                    refine AllReadyH.cons rfl (fun K hK => ?_) AllReadyH.nil
                    go_simp
                    have hmb := Blk.new w5 83 (mkC (mk.getD noMk))
                    have hbW := HB5.out.alloc HB5.out.size (.cells (mkC (mk.getD noMk)) 83)
                    have hbq : wr.heap.size ≤ w5.heap.size := HB5.out.size
                    obtain ⟨bq, hbqe⟩ : ∃ b, w5.heap.size = b := ⟨_, rfl⟩
                    obtain ⟨w6, hw6⟩ : ∃ W, w5.alloc (.cells (mkC (mk.getD noMk)) 83) = W := ⟨_, rfl⟩
                    rw [hbqe] at hmb hbq ⊢
                    rw [hw6] at hmb hbW ⊢
                    clear hbn hba hbqe hw6 HB5
                    refine hK.out _ _ ?_ (fun hHeld' => ?_)
                    · (try dsimp only)
                      exact HKEEP.out _ hbW
                    clear hK K hHeld
                    have hHeld := hHeld'
                    clear hHeld'
                    refine wpAnyH_take (i := 10) (v := ?_) rfl (by kernel_rfl) (by kernel_rfl) (by kernel_rfl) (fun _ _ _ h => h) (Or.inl ⟨by rfl, ?_⟩) (by assumption) ?_
                    rotate_left
                    · intro w hSw
                      (try dsimp only at hSw)
                      go_simp <;> with_reducible rfl
                    try simp only [Act.put, List.getElem_toArray, List.getElem_cons_succ, List.getElem_cons_zero, List.setIfInBounds_toArray, List.set_cons_zero, List.set_cons_succ]
                    refine wpAnyH_done (by kernel_rfl) ?_ _
                    clear hHeld
                    have hbWo := HBWr.out.trans (hbW.mono HBWr.out.size)
                    have hxb := HBXr.out.below hbW hbxl
                    have hqb : w3.heap.size ≠ bq := by omega
                    have hb0r : Blk w6 b0 32 #[wptr g] := HB0.out.below hbWo HB0.out.lt
                    have hb1r : Blk w6 b1 9 #[.string s] := HB1.out.below hbWo HB1.out.lt
                    have HMB := Lib.hid hmb; have HBXr := Lib.hid hxb; have HBWr := Lib.hid hbWo
                    clear hmb hbW hxb hbWo c0 c1 HC HKEEP HWD HWD0
                    cases mk with
                    | none =>
                      have hfin : marksR ms 4 ((bs s).drop k) x0 n0 = (x, m) := by
                        rw [HMR.out, show 4 - j = (3 - j) + 1 by omega, marksR, List.drop_drop, HMKE.out]
                      have HFIN := Lib.hid hfin
                      clear hfin HMR HMKE HMB
                      have c1 := hb1r.cell 0
                      have c0 := hb0r.cell 0
                      simp only [List.getElem?_toArray, List.getElem?_cons_zero] at c0 c1
                      go_wp2
                      have d0 := HBXr.out.cell 0
                      have d1 := HBXr.out.cell 1
                      simp only [List.getElem?_toArray, List.getElem?_cons_zero, List.getElem?_cons_succ] at d0 d1
                      have hUu : U = (pre ++ [⟨x, ((bs s).drop k).take m, k⟩]) ++ unitsK L ms f (k + m) ((bs s).drop (k + m)) := by
                        rw [HUE.out, HS2.out x m HFIN.out, List.append_assoc, List.singleton_append]
                        refine congrArg (fun z => pre ++ (⟨x, ((bs s).drop k).take m, k⟩ :: unitsK L ms f (k + m) ((bs s).drop z))) (?_ : _ = k + m)
                        omega
                      have hlen : pre.length < s.size + 1 := by
                        have := HUL.out
                        rw [hUu, List.length_append, List.length_append] at this
                        simp only [List.length_cons, List.length_nil] at this
                        omega
                      have hj2 : J pre w6.drew := HJ.out pre wo w6.drew none HJJ.out (grown_of_below HBWr.out.drew none) (fun r e => by cases e)
                      obtain ⟨fn, tmps, assign, body, hy, hR⟩ := HY.out pre ⟨x, ((bs s).drop k).take m, k⟩ w6.drew hj2 hlen
                      have hy2 : (Instr.yield l #[.agg #[.int .u32 x.1, .int .u32 x.2, .string (s.extract k (k + m)), .int .i64 (k : Int)]]).run Tryz.prog w6.drew = .ok (.round l fn tmps assign body) w6.drew := by
                        rw [cut_eq]
                        exact hy
                      have HUU := Lib.hid hUu; have HRR := Lib.hid hR
                      have HC0 := Lib.hid hb0r; have HC1 := Lib.hid hb1r
                      clear hy hUu hlen hj2 hR hb0r hb1r c0
                      have hcutL : (k : Int) ≤ (k : Int) + (m : Int) := by omega
                      refine (wpIn_wide (c := .region 16 _ _) (n := 3)).1 ?_
                      refine wpIn_region_still_tail 8 (by kernel_rfl) (by kernel_rfl) ?_
                      simp only [List.take_succ_cons, List.take_zero, List.drop_succ_cons, List.drop_zero]
                      iterate 8 still_step
                      refine wpStill_nil ?_
                      gi_wp2_with fail
                      refine HRR.out.mono ?_
                      rintro e W3 (⟨rfl, hJ3, hk3⟩ | ⟨rfl, hJx3⟩)
                      · have HJ3 := Lib.hid hJ3; have HK3 := Lib.hid hk3
                        clear hJ3 hk3 hy2 d0 d1 c1
                        gi_wp2
                        go_wp2
                        go_roundw
                        case rel =>
                          obtain ⟨k1, k2, k3⟩ := HK3.out
                          exact ⟨_, k + m, f, by omega, by go_num, by omega, HUU.out, (show Blk W3 b0 _ _ from k2.trans HC0.out), (show Blk W3 b1 _ _ from k3.trans HC1.out), (HBW.out.trans (HBWr.out.drew.mono HBW.out.size)).trans k1, HJ3.out⟩
                        case measure => simp [RowKit.intOf]; omega
                      · have HJ3 := Lib.hid hJx3
                        clear hJx3 hy2 d0 d1 c1
                        gi_wp2
                        go_wp2
                        refine bodyPost_ret (results_none rfl _ _ _) rfl ?_
                        exact ⟨⟨_, rfl⟩, .inr ⟨_, ⟨_, HUU.out.symm⟩, HJ3.out⟩⟩
                    | some y =>
                      obtain ⟨hy1, hy2⟩ := hMK y rfl
                      obtain ⟨hyc, hys, -⟩ := HMK.out y hy1
                      have hch := change_any x y.set y.clear w6 HXOK.out hys hyc
                      have hnx : marksR ms 4 ((bs s).drop k) x0 n0 = marksR ms (4 - (j + 1)) ((bs s).drop k) (chgS x y.clear y.set) (m + y.text.size) := by
                        rw [HMR.out, show 4 - j = (3 - j) + 1 by omega, marksR, List.drop_drop, HMKE.out, show 4 - (j + 1) = 3 - j by omega]
                      have hcok : ok32 (chgS x y.clear y.set) := chg_ok HXOK.out hys
                      have hty : m + y.text.size ≤ s.size - k := by
                        rw [List.length_drop, size_bs] at hy2; omega
                      have d0 := HBXr.out.cell 0; have d1 := HBXr.out.cell 1
                      have e0 := HMB.out.cell 0; have e1 := HMB.out.cell 1; have e2 := HMB.out.cell 2; have e3 := HMB.out.cell 3
                      simp only [Option.getD_some, List.getElem?_toArray, List.getElem?_cons_zero, List.getElem?_cons_succ] at d0 d1 e0 e1 e2 e3
                      generalize chgS x y.clear y.set = cx at *
                      have HCH := Lib.hid hch; have HNX := Lib.hid hnx; have HCOK := Lib.hid hcok
                      clear hch hnx hcok hyc hys hy1 hy2 HMR HMKE hMK hb0r hb1r
                      go_wp2_with fail
                      refine HCH.out.mono ?_
                      rintro e w7 ⟨v, rfl, hb7⟩
                      have hx7 := HBXr.out.below hb7 HBXr.out.lt
                      have hm7 := HMB.out.below hb7 HMB.out.lt
                      have hxs := (hx7.set_ 0 (.int .u32 cx.1)).set_ 1 (.int .u32 cx.2)
                      have hbe := ((HBWr.out.trans (hb7.mono HBWr.out.size)).setCell (p := ⟨w3.heap.size, 0, none⟩) hbxo (.int .u32 cx.1)).setCell (p := ⟨w3.heap.size, 1, none⟩) hbxo (.int .u32 cx.2)
                      have d0' := hx7.cell 0; have d1' := hx7.cell 1
                      have fr0 := hx7.frozen 0; have fr1 := hx7.frozen 1
                      have e0' := hm7.cell 0
                      have hqb2 : ¬ bq = w3.heap.size := fun e => hqb e.symm
                      simp only [Option.getD_some, List.getElem?_toArray, List.getElem?_cons_zero, List.getElem?_cons_succ] at d0' d1' e0'
                      have HXS := Lib.hid hxs; have HBE := Lib.hid hbe
                      clear hb7 hx7 hm7 hxs hbe d0 d1 e0 e1 e2 e3 HCH HMB
                      go_wp2
                      go_roundw
                      case rel => exact ⟨j + 1, m + y.text.size, cx, by omega, by go_num, by go_num, by omega, hty, HCOK.out, HNX.out, HXS.out, HBE.out⟩
                      case measure => simp [RowKit.intOf]; omega
                  · go_simp
                    have hbn0 := (Blk.new wr 83 #[.string ⟨#[]⟩, .int .u32 0, .int .u32 0, .int .u32 0]).drew
                    have hba0 := (HWD0.out.alloc (Nat.le_refl _) (.cells #[.string ⟨#[]⟩, .int .u32 0, .int .u32 0, .int .u32 0] 83)).drew
                    have hza : (wr.alloc (.cells #[.string ⟨#[]⟩, .int .u32 0, .int .u32 0, .int .u32 0] 83)).drew.heap.size = wr.heap.size + 1 := World.size_alloc _ _
                    obtain ⟨w4, hw4⟩ : ∃ W, (wr.alloc (.cells #[.string ⟨#[]⟩, .int .u32 0, .int .u32 0, .int .u32 0] 83)).drew = W := ⟨_, rfl⟩
                    rw [hw4] at hbn0 hba0 hza ⊢
                    clear hw4
                    have HBN := Lib.hid hbn0; have HBA4 := Lib.hid hba0
                    clear hbn0 hba0
                    refine hK.out _ _ ?_ (fun hHeld' => ?_)
                    · (try dsimp only)
                      exact HKEEP.out _ HBA4.out
                    clear hK K hHeld
                    have hHeld := hHeld'
                    clear hHeld'
                    refine wpAnyH_ready (rs := [4]) (by kernel_rfl) (by simp) ?_
                    refine AllReadyH.cons rfl (fun K hK => ?_) AllReadyH.nil
                    go_simp
                    (try go_wp2_with fail)
                    refine (HC.out _ HBA4.out).mono ?_
                    rintro e w5 ⟨rfl, hb5⟩
                    have HB5 := Lib.hid (HBA4.out.trans (hb5.mono HBA4.out.size))
                    have hz5 := HBN.out.below hb5 HBN.out.lt
                    have z0 := hz5.cell 0; have z1 := hz5.cell 1; have z2 := hz5.cell 2; have z3 := hz5.cell 3
                    have fz0 := hz5.frozen 0; have fz1 := hz5.frozen 1; have fz2 := hz5.frozen 2; have fz3 := hz5.frozen 3
                    simp only [List.getElem?_toArray, List.getElem?_cons_zero, List.getElem?_cons_succ] at z0 z1 z2 z3
                    have hmb := set4 (m := noMk) (mk.getD noMk) hz5
                    have hbW := below4 (mk.getD noMk) HB5.out (Nat.le_refl wr.heap.size)
                    have HMB := Lib.hid hmb; have HBW6 := Lib.hid hbW
                    clear hb5 hz5 hmb hbW
                    (try go_simp)
                    refine hK.out _ _ ?_ (fun hHeld' => ?_)
                    · (try dsimp only)
                      exact HKEEP.out _ HB5.out
                    clear hK K hHeld
                    have hHeld := hHeld'
                    clear hHeld'
                    refine wpAnyH_take (i := 5) (v := ?_) rfl (by kernel_rfl) (by kernel_rfl) (by kernel_rfl) (fun _ _ _ h => h) (Or.inl ⟨by rfl, ?_⟩) (by assumption) ?_
                    rotate_left
                    · intro w hSw
                      (try dsimp only at hSw)
                      go_simp <;> with_reducible rfl
                    try simp only [Act.put, List.getElem_toArray, List.getElem_cons_succ, List.getElem_cons_zero, List.setIfInBounds_toArray, List.set_cons_zero, List.set_cons_succ]
                    refine wpAnyH_take (i := 6) (v := ?_) rfl (by kernel_rfl) (by kernel_rfl) (by kernel_rfl) (fun _ _ _ h => h) (Or.inl ⟨by rfl, ?_⟩) (by assumption) ?_
                    rotate_left
                    · intro w hSw
                      (try dsimp only at hSw)
                      go_simp <;> with_reducible rfl
                    try simp only [Act.put, List.getElem_toArray, List.getElem_cons_succ, List.getElem_cons_zero, List.setIfInBounds_toArray, List.set_cons_zero, List.set_cons_succ]
                    refine wpAnyH_take (i := 7) (v := ?_) rfl (by kernel_rfl) (by kernel_rfl) (by kernel_rfl) (fun _ _ _ h => h) (Or.inl ⟨by rfl, ?_⟩) (by assumption) ?_
                    rotate_left
                    · intro w hSw
                      (try dsimp only at hSw)
                      go_simp <;> with_reducible rfl
                    try simp only [Act.put, List.getElem_toArray, List.getElem_cons_succ, List.getElem_cons_zero, List.setIfInBounds_toArray, List.set_cons_zero, List.set_cons_succ]
                    refine wpAnyH_ready (rs := [9]) (by kernel_rfl) (by simp) ?_
                    refine AllReadyH.cons rfl (fun K hK => ?_) AllReadyH.nil
                    go_simp
                    have hmb := HMB.out
                    have hbW := HBW6.out
                    have hbq : wr.heap.size ≤ wr.heap.size := Nat.le_refl _
                    obtain ⟨bq, hbqe⟩ : ∃ b, wr.heap.size = b := ⟨_, rfl⟩
                    clear HMB HBW6 z0 z1 z2 z3 fz0 fz1 fz2 fz3 HBN HBA4 HB5 hza
                    refine hK.out _ _ ?_ (fun hHeld' => ?_)
                    · (try dsimp only)
                      exact HKEEP.out _ hbW
                    clear hK K hHeld
                    have hHeld := hHeld'
                    clear hHeld'
                    refine wpAnyH_take (i := 10) (v := ?_) rfl (by kernel_rfl) (by kernel_rfl) (by kernel_rfl) (fun _ _ _ h => h) (Or.inl ⟨by rfl, ?_⟩) (by assumption) ?_
                    rotate_left
                    · intro w hSw
                      (try dsimp only at hSw)
                      go_simp <;> with_reducible rfl
                    try simp only [Act.put, List.getElem_toArray, List.getElem_cons_succ, List.getElem_cons_zero, List.setIfInBounds_toArray, List.set_cons_zero, List.set_cons_succ]
                    refine wpAnyH_done (by kernel_rfl) ?_ _
                    clear hHeld
                    generalize (((w5.setCell ⟨wr.heap.size, 0, none⟩ (.string (mk.getD noMk).text)).setCell ⟨wr.heap.size, 1, none⟩ (.int .u32 (mk.getD noMk).clear)).setCell ⟨wr.heap.size, 2, none⟩ (.int .u32 (mk.getD noMk).set.1)).setCell ⟨wr.heap.size, 3, none⟩ (.int .u32 (mk.getD noMk).set.2) = w6 at hmb hbW ⊢
                    rw [hbqe] at hmb ⊢
                    have hbq : wr.heap.size ≤ bq := by omega
                    clear hbqe
                    have hbWo := HBWr.out.trans (hbW.mono HBWr.out.size)
                    have hxb := HBXr.out.below hbW hbxl
                    have hqb : w3.heap.size ≠ bq := by omega
                    have hb0r : Blk w6 b0 32 #[wptr g] := HB0.out.below hbWo HB0.out.lt
                    have hb1r : Blk w6 b1 9 #[.string s] := HB1.out.below hbWo HB1.out.lt
                    have HMB := Lib.hid hmb; have HBXr := Lib.hid hxb; have HBWr := Lib.hid hbWo
                    clear hmb hbW hxb hbWo c0 c1 HC HKEEP HWD HWD0
                    cases mk with
                    | none =>
                      have hfin : marksR ms 4 ((bs s).drop k) x0 n0 = (x, m) := by
                        rw [HMR.out, show 4 - j = (3 - j) + 1 by omega, marksR, List.drop_drop, HMKE.out]
                      have HFIN := Lib.hid hfin
                      clear hfin HMR HMKE HMB
                      have c1 := hb1r.cell 0
                      have c0 := hb0r.cell 0
                      simp only [List.getElem?_toArray, List.getElem?_cons_zero] at c0 c1
                      go_wp2
                      have d0 := HBXr.out.cell 0
                      have d1 := HBXr.out.cell 1
                      simp only [List.getElem?_toArray, List.getElem?_cons_zero, List.getElem?_cons_succ] at d0 d1
                      have hUu : U = (pre ++ [⟨x, ((bs s).drop k).take m, k⟩]) ++ unitsK L ms f (k + m) ((bs s).drop (k + m)) := by
                        rw [HUE.out, HS2.out x m HFIN.out, List.append_assoc, List.singleton_append]
                        refine congrArg (fun z => pre ++ (⟨x, ((bs s).drop k).take m, k⟩ :: unitsK L ms f (k + m) ((bs s).drop z))) (?_ : _ = k + m)
                        omega
                      have hlen : pre.length < s.size + 1 := by
                        have := HUL.out
                        rw [hUu, List.length_append, List.length_append] at this
                        simp only [List.length_cons, List.length_nil] at this
                        omega
                      have hj2 : J pre w6.drew := HJ.out pre wo w6.drew none HJJ.out (grown_of_below HBWr.out.drew none) (fun r e => by cases e)
                      obtain ⟨fn, tmps, assign, body, hy, hR⟩ := HY.out pre ⟨x, ((bs s).drop k).take m, k⟩ w6.drew hj2 hlen
                      have hy2 : (Instr.yield l #[.agg #[.int .u32 x.1, .int .u32 x.2, .string (s.extract k (k + m)), .int .i64 (k : Int)]]).run Tryz.prog w6.drew = .ok (.round l fn tmps assign body) w6.drew := by
                        rw [cut_eq]
                        exact hy
                      have HUU := Lib.hid hUu; have HRR := Lib.hid hR
                      have HC0 := Lib.hid hb0r; have HC1 := Lib.hid hb1r
                      clear hy hUu hlen hj2 hR hb0r hb1r c0
                      have hcutL : (k : Int) ≤ (k : Int) + (m : Int) := by omega
                      refine (wpIn_wide (c := .region 16 _ _) (n := 3)).1 ?_
                      refine wpIn_region_still_tail 8 (by kernel_rfl) (by kernel_rfl) ?_
                      simp only [List.take_succ_cons, List.take_zero, List.drop_succ_cons, List.drop_zero]
                      iterate 8 still_step
                      refine wpStill_nil ?_
                      gi_wp2_with fail
                      refine HRR.out.mono ?_
                      rintro e W3 (⟨rfl, hJ3, hk3⟩ | ⟨rfl, hJx3⟩)
                      · have HJ3 := Lib.hid hJ3; have HK3 := Lib.hid hk3
                        clear hJ3 hk3 hy2 d0 d1 c1
                        gi_wp2
                        go_wp2
                        go_roundw
                        case rel =>
                          obtain ⟨k1, k2, k3⟩ := HK3.out
                          exact ⟨_, k + m, f, by omega, by go_num, by omega, HUU.out, (show Blk W3 b0 _ _ from k2.trans HC0.out), (show Blk W3 b1 _ _ from k3.trans HC1.out), (HBW.out.trans (HBWr.out.drew.mono HBW.out.size)).trans k1, HJ3.out⟩
                        case measure => simp [RowKit.intOf]; omega
                      · have HJ3 := Lib.hid hJx3
                        clear hJx3 hy2 d0 d1 c1
                        gi_wp2
                        go_wp2
                        refine bodyPost_ret (results_none rfl _ _ _) rfl ?_
                        exact ⟨⟨_, rfl⟩, .inr ⟨_, ⟨_, HUU.out.symm⟩, HJ3.out⟩⟩
                    | some y =>
                      obtain ⟨hy1, hy2⟩ := hMK y rfl
                      obtain ⟨hyc, hys, -⟩ := HMK.out y hy1
                      have hch := change_any x y.set y.clear w6 HXOK.out hys hyc
                      have hnx : marksR ms 4 ((bs s).drop k) x0 n0 = marksR ms (4 - (j + 1)) ((bs s).drop k) (chgS x y.clear y.set) (m + y.text.size) := by
                        rw [HMR.out, show 4 - j = (3 - j) + 1 by omega, marksR, List.drop_drop, HMKE.out, show 4 - (j + 1) = 3 - j by omega]
                      have hcok : ok32 (chgS x y.clear y.set) := chg_ok HXOK.out hys
                      have hty : m + y.text.size ≤ s.size - k := by
                        rw [List.length_drop, size_bs] at hy2; omega
                      have d0 := HBXr.out.cell 0; have d1 := HBXr.out.cell 1
                      have e0 := HMB.out.cell 0; have e1 := HMB.out.cell 1; have e2 := HMB.out.cell 2; have e3 := HMB.out.cell 3
                      simp only [Option.getD_some, List.getElem?_toArray, List.getElem?_cons_zero, List.getElem?_cons_succ] at d0 d1 e0 e1 e2 e3
                      generalize chgS x y.clear y.set = cx at *
                      have HCH := Lib.hid hch; have HNX := Lib.hid hnx; have HCOK := Lib.hid hcok
                      clear hch hnx hcok hyc hys hy1 hy2 HMR HMKE hMK hb0r hb1r
                      go_wp2_with fail
                      refine HCH.out.mono ?_
                      rintro e w7 ⟨v, rfl, hb7⟩
                      have hx7 := HBXr.out.below hb7 HBXr.out.lt
                      have hm7 := HMB.out.below hb7 HMB.out.lt
                      have hxs := (hx7.set_ 0 (.int .u32 cx.1)).set_ 1 (.int .u32 cx.2)
                      have hbe := ((HBWr.out.trans (hb7.mono HBWr.out.size)).setCell (p := ⟨w3.heap.size, 0, none⟩) hbxo (.int .u32 cx.1)).setCell (p := ⟨w3.heap.size, 1, none⟩) hbxo (.int .u32 cx.2)
                      have d0' := hx7.cell 0; have d1' := hx7.cell 1
                      have fr0 := hx7.frozen 0; have fr1 := hx7.frozen 1
                      have e0' := hm7.cell 0
                      have hqb2 : ¬ bq = w3.heap.size := fun e => hqb e.symm
                      simp only [Option.getD_some, List.getElem?_toArray, List.getElem?_cons_zero, List.getElem?_cons_succ] at d0' d1' e0'
                      have HXS := Lib.hid hxs; have HBE := Lib.hid hbe
                      clear hb7 hx7 hm7 hxs hbe d0 d1 e0 e1 e2 e3 HCH HMB
                      go_wp2
                      go_roundw
                      case rel => exact ⟨j + 1, m + y.text.size, cx, by omega, by go_num, by go_num, by omega, hty, HCOK.out, HNX.out, HXS.out, HBE.out⟩
                      case measure => simp [RowKit.intOf]; omega
                · obtain rfl : j = 4 := by omega
                  have hfin : marksR ms 4 ((bs s).drop k) x0 n0 = (x, m) := HMR.out
                  have HFIN := Lib.hid hfin
                  clear hfin HMR
                  go_wp2
                  have d0 := HBXr.out.cell 0
                  have d1 := HBXr.out.cell 1
                  simp only [List.getElem?_toArray, List.getElem?_cons_zero, List.getElem?_cons_succ] at d0 d1
                  have hUu : U = (pre ++ [⟨x, ((bs s).drop k).take m, k⟩]) ++ unitsK L ms f (k + m) ((bs s).drop (k + m)) := by
                    rw [HUE.out, HS2.out x m HFIN.out, List.append_assoc, List.singleton_append]
                    refine congrArg (fun z => pre ++ (⟨x, ((bs s).drop k).take m, k⟩ :: unitsK L ms f (k + m) ((bs s).drop z))) (?_ : _ = k + m)
                    omega
                  have hlen : pre.length < s.size + 1 := by
                    have := HUL.out
                    rw [hUu, List.length_append, List.length_append] at this
                    simp only [List.length_cons, List.length_nil] at this
                    omega
                  have hj2 : J pre wr.drew := HJ.out pre wo wr.drew none HJJ.out (grown_of_below HBWr.out.drew none) (fun r e => by cases e)
                  obtain ⟨fn, tmps, assign, body, hy, hR⟩ := HY.out pre ⟨x, ((bs s).drop k).take m, k⟩ wr.drew hj2 hlen
                  have hy2 : (Instr.yield l #[.agg #[.int .u32 x.1, .int .u32 x.2, .string (s.extract k (k + m)), .int .i64 (k : Int)]]).run Tryz.prog wr.drew = .ok (.round l fn tmps assign body) wr.drew := by
                    rw [cut_eq]
                    exact hy
                  have HUU := Lib.hid hUu; have HRR := Lib.hid hR
                  have HC0 := Lib.hid hb0r; have HC1 := Lib.hid hb1r
                  clear hy hUu hlen hj2 hR hb0r hb1r c0
                  have hcutL : (k : Int) ≤ (k : Int) + (m : Int) := by omega
                  refine (wpIn_wide (c := .region 16 _ _) (n := 3)).1 ?_
                  refine wpIn_region_still_tail 8 (by kernel_rfl) (by kernel_rfl) ?_
                  simp only [List.take_succ_cons, List.take_zero, List.drop_succ_cons, List.drop_zero]
                  iterate 8 still_step
                  refine wpStill_nil ?_
                  gi_wp2_with fail
                  refine HRR.out.mono ?_
                  rintro e W3 (⟨rfl, hJ3, hk3⟩ | ⟨rfl, hJx3⟩)
                  · have HJ3 := Lib.hid hJ3; have HK3 := Lib.hid hk3
                    clear hJ3 hk3 hy2 d0 d1 c1
                    gi_wp2
                    go_wp2
                    go_roundw
                    case rel =>
                      obtain ⟨k1, k2, k3⟩ := HK3.out
                      exact ⟨_, k + m, f, by omega, by go_num, by omega, HUU.out, (show Blk W3 b0 _ _ from k2.trans HC0.out), (show Blk W3 b1 _ _ from k3.trans HC1.out), (HBW.out.trans (HBWr.out.drew.mono HBW.out.size)).trans k1, HJ3.out⟩
                    case measure => simp [RowKit.intOf]; omega
                  · have HJ3 := Lib.hid hJx3
                    clear hJx3 hy2 d0 d1 c1
                    gi_wp2
                    go_wp2
                    refine bodyPost_ret (results_none rfl _ _ _) rfl ?_
                    exact ⟨⟨_, rfl⟩, .inr ⟨_, ⟨_, HUU.out.symm⟩, HJ3.out⟩⟩
    · obtain rfl : k = s.size := by omega
      have hE : U = pre := by
        rw [HUE.out, List.drop_of_length_le (by rw [size_bs]; exact Nat.le_refl _)]
        cases f <;> simp [unitsK]
      have HE := Lib.hid hE
      clear hE hlt
      go_wp2
      go_end0
      exact ⟨⟨_, rfl⟩, .inl ⟨U, rfl, by rw [HE.out]; exact HJJ.out⟩⟩
end Go.Proofs.YtohggdfplmlinaaGreatDoor
