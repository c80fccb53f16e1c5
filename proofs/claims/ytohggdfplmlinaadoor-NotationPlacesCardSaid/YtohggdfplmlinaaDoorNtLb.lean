/-
  NotationPlaces: the walk. Conditions: a case that can be read.
-/
import Derived.Test.YtohggdfplmlinaaDoorNtF
namespace Go.Proofs.YtohggdfplmlinaaDoor
open Go.RowKit Go.Lib

theorem wpList_appendG {P : Program} {w : World} {ops : Array Oper} {rest : List Oper} {o : Oper} {a : Act} {Q : Exit → Act → World → Prop} (hgd : Region.wanted o (yielded ops a.tmps) = true) (s x : Operand) (t : TypeId)
    (ho : o.op = .call { callee := .builtin .append, args := #[s, x], argTypes := #[t, t] })
    (base : Nat) (e : TypeId) (i : TypeInfo) (z : Value) (size bytes : Nat) (ht : P.underlying t = some (.slice e)) (hi : P.info? e = some i) (hz : i.zero = some z)
    (hsize : i.size = size) (hby : i.bytes = bytes) (hzs : z.cells.size = size) (hsz : 0 < size)
    (v : Value) (n : Nat) (xs : List Value) (hs : a.eval s = v) (hown : w.ownsRow base e size v n xs)
    (B : Nat) (A : Option Addr) (m c : Nat) (news : List Value) (hx : a.eval x = .slice A m c) (hr : Reads w B size A m news) (h1 : ∀ u ∈ news, u.oneCell' = true)
    (h63 : n + m ≤ maxLen) (hbytes : (n + m) * bytes ≤ 140737488355328) (hbase : base ≤ w.heap.size)
    (h : ∀ v' w', w'.ownsRow base e size v' (n + m) (xs ++ news) → w.grownBy w' v.ownBlock → (v'.ownBlock = v.ownBlock ∨ v'.ownBlock = some w.heap.size) → wpList P ops Q rest (a.put o.dst v') w') : wpList P ops Q (o :: rest) a w :=
  wpList_step fun K hK => by
    rw [if_pos hgd]
    exact wp_append_any w s x t ho base e i z size bytes ht hi hz hsize hby hzs hsz v n xs hs hown B A m c news hx hr h1 h63 hbytes hbase (fun v' w' h2 h3 h4 => hK _ _ (h v' w' h2 h3 h4))
set_option linter.unusedSimpArgs false in
set_option maxRecDepth 20000 in
set_option maxHeartbeats 4000000 in
theorem places_law {w : World} {A1 A2 A3 : Option Addr} {n1 c1 n2 c2 n3 c3 : Nat} {fs : List ByteArray} {xs : List Nam} {ms : List Mk} (h : CaseM w w.heap.size A1 A2 A3 n1 c1 n2 c2 n3 c3 fs xs ms)
    (s more : ByteArray) (hs : s.size ≤ maxLen) (hmo : more.size ≤ maxLen) :
    Calls Tryd.prog 3 #[caseV A1 A2 A3 n1 c1 n2 c2 n3 c3, .string s, .string more] w fun e w' => e = .returned (.bool true) ∧ Below w.heap.size w w' := by
  obtain ⟨i1, hi1, hx0, hx1, hx2⟩ := info_parts (show (Tryd.prog.info? 39).map (fun i => (i.zero, i.size, i.bytes)) = some (some (.agg #[.int .u32 0, .int .u32 0]), 2, 8) by kernel_rfl)
  obtain ⟨W1, hW1⟩ : ∃ W1, w.alloc (.cells #[.slice A1 n1 c1, .slice A2 n2 c2, .slice A3 n3 c3] 26) = W1 := ⟨_, rfl⟩
  have hz : W1.heap.size = w.heap.size + 1 := by rw [← hW1]; simp
  have hb1 : Below w.heap.size w W1 := by rw [← hW1]; exact (Below.refl _ _).alloc (Nat.le_refl _) _
  have kb : Blk W1 w.heap.size 26 #[.slice A1 n1 c1, .slice A2 n2 c2, .slice A3 n3 c3] := by rw [← hW1]; exact Blk.new w _ _
  have hm := made_c (h.below hb1)
  have k0 := kb.cell 0; have k1 := kb.cell 1; have k2 := kb.cell 2
  simp only [List.getElem?_toArray, List.getElem?_cons_zero, List.getElem?_cons_succ] at k0 k1 k2
  have hwk := works_any
  have HM := Lib.hid hm; have KB := Lib.hid kb; have HB1 := Lib.hid hb1; have HWK := Lib.hid hwk
  clear hm kb hb1 hwk h
  have WEND : ∀ W, Below w.heap.size w W → Calls Tryd.prog 11 #[] W fun e w' => e = .returned (.bool true) ∧ Below w.heap.size w w' := fun W hW => (HWK.out W).mono (by
    rintro e w' ⟨rfl, hb⟩
    exact ⟨rfl, hW.trans (hb.mono hW.size)⟩)
  have HWE := Lib.hid WEND
  clear WEND
  go_enter Tryd.func3, Tryd.ntmps3
  go_wp2_with (rw [hW1])
  refine HM.out.mono ?_
  rintro e w2 ⟨hb2, ⟨hE, g, rfl, hn2⟩ | ⟨hE, rfl⟩⟩
  · have hB2 := HB1.out.trans (hb2.mono HB1.out.size)
    have hz2 := hb2.size
    have kb2 := KB.out.below hb2 (by omega)
    have k0 := kb2.cell 0; have k1 := kb2.cell 1; have k2 := kb2.cell 2
    simp only [List.getElem?_toArray, List.getElem?_cons_zero, List.getElem?_cons_succ] at k0 k1 k2
    have hsm := small_c A1 A2 A3 n1 c1 n2 c2 n3 c3 w2
    have HSM := Lib.hid hsm; have HB2 := Lib.hid hB2; have HN2 := Lib.hid hn2
    clear hsm hB2 hb2 hn2 kb2 hW1 hE
    go_wp2_with fail
    refine HSM.out.mono ?_
    rintro e w3 ⟨rfl, hb3⟩
    have hB3 := HB2.out.trans (hb3.mono HB2.out.size)
    have hn3 := HN2.out.below hb3
    have hz3 := hb3.size
    have HB3 := Lib.hid hB3; have HN3 := Lib.hid hn3
    clear hb3 hB3 hn3 HSM HB2 HN2
    cases hsm : smallK n1 n2 n3 with
    | false =>
      clear hsm
      go_wp2_with fail
      refine (HWE.out _ HB3.out).mono ?_
      rintro e w4 ⟨rfl, hb4⟩
      have HB4 := Lib.hid hb4
      clear hb4
      go_wp2
      go_ret
      exact ⟨rfl, HB4.out⟩
    | true =>
      clear hsm
      by_cases hg0 : 60 < s.size
      · have hg0I : (60 : Int) < (s.size : Int) := by omega
        clear hg0
        go_wp2_with fail
        refine (HWE.out _ HB3.out).mono ?_
        rintro e w4 ⟨rfl, hb4⟩
        have HB4 := Lib.hid hb4
        clear hb4
        go_wp2
        go_ret
        exact ⟨rfl, HB4.out⟩
      · have hg0I : ¬ (60 : Int) < (s.size : Int) := by omega
        by_cases hg1 : 60 < more.size
        · have hg1I : (60 : Int) < (more.size : Int) := by omega
          clear hg1
          go_wp2_with fail
          refine (HWE.out _ HB3.out).mono ?_
          rintro e w4 ⟨rfl, hb4⟩
          have HB4 := Lib.hid hb4
          clear hb4
          go_wp2
          go_ret
          exact ⟨rfl, HB4.out⟩
        · have hg1I : ¬ (60 : Int) < (more.size : Int) := by omega
          generalize addsL fs.length [] xs = L at HN3
          have hd := HN3.out.dots
          have hps := parse_any (w := w3) s ⟨_, HN3.out⟩ hs
          obtain ⟨R, hR⟩ : ∃ R, readR L ms (bs s) = R := ⟨_, rfl⟩
          rw [hR] at hps
          have HPS := Lib.hid hps; have HRR := Lib.hid hR; have HD := Lib.hid hd
          clear hps hR hd k0 k1 k2
          go_wp2_with fail
          refine HPS.out.mono ?_
          rintro e w4 ⟨v, rfl, ho4, hb4⟩
          obtain ⟨A4, c4, rfl, hc4, hc4'⟩ := ownsRow_form ho4
          have hB4 := HB3.out.trans (hb4.mono HB3.out.size)
          have hn4 := HN3.out.below hb4
          have HO4 := Lib.hid ho4; have HB4 := Lib.hid hB4; have HN4 := Lib.hid hn4
          clear ho4 hB4 hn4 hb4 HPS HN3 HB3
          by_cases hE : R.e = 0
          · have e1 : (R.e != 0) = false := by rw [hE]; rfl
            have hsne : ∀ y, R.w = y :: R.w.tail → bs s ≠ [] := fun y hy e => by
              have := HRR.out
              rw [e] at this
              rw [← this] at hy
              cases hy
            have hps2 := parse_any (w := w4) more ⟨_, HN4.out⟩ hmo
            obtain ⟨R2, hR2⟩ : ∃ R2, readR L ms (bs more) = R2 := ⟨_, rfl⟩
            rw [hR2] at hps2
            have HPS2 := Lib.hid hps2; have HRR2 := Lib.hid hR2; have HSNE := Lib.hid hsne; have HE := Lib.hid hE
            clear hps2 hR2 hsne hE
            go_wp2_with fail
            refine HPS2.out.mono ?_
            rintro e w5 ⟨v5, rfl, ho5, hb5⟩
            obtain ⟨A5, c5, rfl, hc5, hc5'⟩ := ownsRow_form ho5
            have hB5 := HB4.out.trans (hb5.mono HB4.out.size)
            have hn5 := HN4.out.below hb5
            have hs5 := hb5.size
            have HO5 := Lib.hid ho5; have HB5 := Lib.hid hB5; have HN5 := Lib.hid hn5
            have HO4' := Lib.hid (own_chgS (S := fun _ => False) HO4.out (.of_below hb5) (fun _ _ h => h))
            clear ho5 hB5 hn5 hb5 HPS2 HN4 HB4 HO4
            by_cases hE2 : R2.e = 0
            · have e2 : (R2.e != 0) = false := by rw [hE2]; rfl
              by_cases hw0 : R.w.length = 0
              · have hw0I : ((R.w.length : Int) == 0) = true := by rw [hw0]; rfl
                have HW0 := Lib.hid hw0
                clear hw0 hE2
                go_wp2_with fail
                refine (HWE.out _ HB5.out).mono ?_
                rintro e w9 ⟨rfl, hb9⟩
                have HB9 := Lib.hid hb9
                clear hb9
                go_wp2
                go_ret
                exact ⟨rfl, HB9.out⟩
              · have hw0I : ((R.w.length : Int) == 0) = false := by rw [beq_eq_false_iff_ne]; omega
                by_cases hv0 : R2.w.length = 0
                · have hv0I : ((R2.w.length : Int) == 0) = true := by rw [hv0]; rfl
                  have HV0 := Lib.hid hv0
                  clear hv0 hE2 hw0
                  go_wp2_with fail
                  refine (HWE.out _ HB5.out).mono ?_
                  rintro e w9 ⟨rfl, hb9⟩
                  have HB9 := Lib.hid hb9
                  clear hb9
                  go_wp2
                  go_ret
                  exact ⟨rfl, HB9.out⟩
                · have hv0I : ((R2.w.length : Int) == 0) = false := by rw [beq_eq_false_iff_ne]; omega
                  have hne1 : bs s ≠ [] := fun e => by
                    have := HRR.out
                    rw [e, readR_nil] at this
                    exact hw0 (by rw [← this]; rfl)
                  have hne2 : bs more ≠ [] := fun e => by
                    have := HRR2.out
                    rw [e, readR_nil] at this
                    exact hv0 (by rw [← this]; rfl)
                  have hJ := readR_join HD.out (t := bs s) (m := bs more) (by rw [HRR.out]; exact HE.out) (by rw [HRR2.out]; exact hE2) hne1 hne2
                  rw [HRR.out, HRR2.out] at hJ
                  have htx : bs (s ++ ⟨#[46]⟩ ++ more) = bs s ++ 46 :: bs more := by
                    rw [bs_append, bs_append, List.append_assoc]; rfl
                  have hps3 := parse_any (w := w5) (s ++ ⟨#[46]⟩ ++ more) ⟨_, HN5.out⟩ (by
                    rw [ByteArray.size_append, ByteArray.size_append]
                    have : (ByteArray.mk #[46]).size = 1 := rfl
                    unfold maxLen; omega)
                  rw [htx] at hps3
                  obtain ⟨R3, hR3⟩ : ∃ R3, readR L ms (bs s ++ 46 :: bs more) = R3 := ⟨_, rfl⟩
                  rw [hR3] at hps3 hJ
                  have HPS3 := Lib.hid hps3; have HJ := Lib.hid hJ
                  clear hps3 hJ hR3 htx hne1 hne2 hE2
                  go_wp2_with fail
                  refine HPS3.out.mono ?_
                  rintro e w6 ⟨v6, rfl, ho6, hb6⟩
                  obtain ⟨A6, c6, rfl, hc6, hc6'⟩ := ownsRow_form ho6
                  have hB6 := HB5.out.trans (hb6.mono HB5.out.size)
                  have HO6 := Lib.hid ho6; have HB6 := Lib.hid hB6
                  have HP4 := Lib.hid (own_chgS (S := fun _ => False) HO4'.out (.of_below hb6) (fun _ _ h => h))
                  have HP5 := Lib.hid (own_chgS (S := fun _ => False) HO5.out (.of_below hb6) (fun _ _ h => h))
                  clear ho6 hB6 hb6 HPS3 HN5 HB5 HO4' HO5
                  have hl1 : R.w.length ≤ 32 := by have := readR_w32 (L := L) (ms := ms) (bs s); rwa [HRR.out] at this
                  have hl2 : R2.w.length ≤ 32 := by have := readR_w32 (L := L) (ms := ms) (bs more); rwa [HRR2.out] at this
                  by_cases h32 : 32 < R.w.length + R2.w.length
                  · have h32I : (32 : Int) < (R.w.length : Int) + (R2.w.length : Int) := by omega
                    have hJ := HJ.out
                    rcases hJ with ⟨hJ, -⟩ | ⟨-, hJ⟩
                    · omega
                    · have e3 : (R3.e == 11) = true := by rw [hJ]; rfl
                      clear hJ h32
                      go_wp2_with fail
                      refine (HWE.out _ HB6.out).mono ?_
                      rintro e w9 ⟨rfl, hb9⟩
                      have HB9 := Lib.hid hb9
                      clear hb9
                      go_wp2
                      go_ret
                      exact ⟨rfl, HB9.out⟩
                  · have h32I : ¬ (32 : Int) < (R.w.length : Int) + (R2.w.length : Int) := by omega
                    have hJ := HJ.out
                    rcases hJ with ⟨-, hJ⟩ | ⟨hJ, -⟩
                    · subst hJ
                      simp only [] at HO6 hc6
                      have hq0 := own_empty0 w6 39 2
                      have hbe : Below w6.heap.size w6 (w6.alloc (.cells #[] 39)) := (Below.refl _ _).alloc (Nat.le_refl _) _
                      have hr4 := (Reads.of_own HP4.out).below hbe
                      have hr5 := (Reads.of_own HP5.out).below hbe
                      have HQ0 := Lib.hid hq0; have HR4 := Lib.hid hr4; have HR5 := Lib.hid hr5; have HBE := Lib.hid hbe
                      have HONE := Lib.hid (show ∀ (l : List Snd), ∀ u ∈ l.flatMap sndC, u.oneCell' = true from fun l u hu => by
                        obtain ⟨x, _, hx⟩ := List.mem_flatMap.1 hu
                        simp only [sndC, List.mem_cons, List.not_mem_nil, or_false] at hx
                        rcases hx with rfl | rfl <;> rfl)
                      have hstep : ∀ w7, (w6.alloc (.cells #[] 39)).grownBy w7 (Value.slice (some ⟨w6.heap.size, 0, none⟩) 0 0).ownBlock → Below w6.heap.size (w6.alloc (.cells #[] 39)) w7 := fun w7 hg => (Below.refl _ _).grown hg (by simp) (fun k hk => by simp only [Value.ownBlock, Option.some.injEq] at hk; omega)
                      have HSTEP := Lib.hid hstep
                      clear hq0 hbe hr4 hr5 hstep
                      go_wp2_with (first
                        | (refine wpList_appendG rfl (.tmp 133) (.tmp 134) 32 rfl w6.heap.size 39 i1 (.agg #[.int .u32 0, .int .u32 0]) 2 8 Tryd.underlying32 hi1 hx0 hx1 hx2 rfl (by decide) (.slice (some ⟨w6.heap.size, 0, none⟩) 0 0) 0 [] rfl HQ0.out w6.heap.size A4 R.w.length c4 (R.w.flatMap sndC) rfl HR4.out (HONE.out _) (by unfold maxLen; omega) (by omega) (by simp) ?_; intro v7 w7 ho7 hg7 hv7; rw [Nat.zero_add, List.nil_append] at ho7; obtain ⟨A7, c7, rfl, _, _⟩ := ownsRow_form ho7)
                        | (refine wpList_appendG rfl (.tmp 135) (.tmp 136) 32 rfl w6.heap.size 39 i1 (.agg #[.int .u32 0, .int .u32 0]) 2 8 Tryd.underlying32 hi1 hx0 hx1 hx2 rfl (by decide) (.slice A7 R.w.length c7) R.w.length (R.w.flatMap sndC) rfl ho7 w6.heap.size A5 R2.w.length c5 (R2.w.flatMap sndC) rfl (HR5.out.below (HSTEP.out w7 hg7)) (HONE.out _) (by unfold maxLen; omega) (by omega) (by have := hg7.size; simp at this; omega) ?_; intro v8 w8 ho8 hg8 hv8; obtain ⟨A8, c8, rfl, _, _⟩ := ownsRow_form ho8))
                      have hB7 := HB6.out.trans ((HBE.out.trans (HSTEP.out w7 hg7)).mono HB6.out.size)
                      have hs7 : w6.heap.size ≤ w7.heap.size := by have := hg7.size; simp at this; omega
                      have hB8 := hB7.trans (((Below.refl w6.heap.size w7).grown hg8 hs7 (fun k hk => (ho7.lt k hk).1)).mono HB6.out.size)
                      have hb68 : Below w6.heap.size w6 w8 := (HBE.out.trans (HSTEP.out w7 hg7)).trans ((Below.refl w6.heap.size w7).grown hg8 hs7 (fun k hk => (ho7.lt k hk).1))
                      rw [← List.flatMap_append, ← List.length_append] at ho8
                      have hr6 := ((Reads.of_own HO6.out).below hb68).more hb68.size
                      have heq := refEqual_any A6 A8 (R.w ++ R2.w).length (R.w ++ R2.w).length c6 c8 w8.heap.size (R.w ++ R2.w) (R.w ++ R2.w) w8 hr6 (Reads.of_own ho8) (Nat.le_refl _) (by rw [List.length_append]; omega)
                      rw [decide_eq_true rfl, List.length_append] at heq
                      have HEQ := Lib.hid heq; have HB8 := Lib.hid hB8
                      clear hB7 hs7 hB8 hb68 hr6 heq ho7 ho8 hg7 hg8 hv7 hv8
                      refine HEQ.out.mono ?_
                      rintro e w9 ⟨rfl, -, hb9⟩
                      have HB9 := Lib.hid (HB8.out.trans (hb9.mono HB8.out.size))
                      clear hb9 HEQ HB8
                      go_wp2_with fail
                      refine (HWE.out _ HB9.out).mono ?_
                      rintro e w10 ⟨rfl, hb10⟩
                      have HB10 := Lib.hid hb10
                      clear hb10
                      go_wp2
                      go_ret
                      exact ⟨rfl, HB10.out⟩
                    · omega
            · have e2 : (R2.e != 0) = true := by rw [bne_iff_ne]; exact hE2
              clear hE2
              go_wp2_with fail
              refine (HWE.out _ HB5.out).mono ?_
              rintro e w9 ⟨rfl, hb9⟩
              have HB9 := Lib.hid hb9
              clear hb9
              go_wp2
              go_ret
              exact ⟨rfl, HB9.out⟩
          · have e1 : (R.e != 0) = true := by rw [bne_iff_ne]; exact hE
            obtain ⟨-, -, c, hc, hat, hce, hc46⟩ := readR_err HD.out (t := bs s) (by rw [HRR.out]; exact hE)
            rw [HRR.out] at hat
            have hcs : c < s.size := by rw [size_bs] at hc; exact hc
            have hps2 := fun W (hW : NotM W (NewB W1 w2) g fs L ms) => parse_any (w := W) (s.extract 0 c) hW (by have := size_extract_le s 0 c; unfold maxLen; omega)
            rw [bs_pre] at hps2
            obtain ⟨R2, hR2⟩ : ∃ R2, readR L ms ((bs s).take c) = R2 := ⟨_, rfl⟩
            rw [hR2] at hps2 hce
            have e2 : (R2.e == 0) = true := by rw [hce]; rfl
            have hps3 := hps2 w4 ⟨_, HN4.out⟩
            have HPS3 := Lib.hid hps3
            clear hps2 hps3 hR2 hce hE HD
            obtain ⟨a, ha⟩ : ∃ a, R.at_ = a := ⟨_, rfl⟩
            rw [ha] at hat ⊢
            have hsk : skipD c ((bs s).drop c) = if 0 < c ∧ s[c] = 46 then 1 else 0 := by
              unfold skipD
              rw [List.head?_drop, List.getElem?_eq_getElem hc]
              simp only [Option.some.injEq]; rfl
            by_cases h46 : 0 < c ∧ s[c] = 46
            · rw [hsk, if_pos h46] at hat
              have ha0 : ¬ (a : Int) < 0 := by omega
              have ha1 : ¬ (s.size : Int) < (a : Int) := by omega
              have ha2 : (0 : Int) < (a : Int) := by omega
              have ha3 : (a : Int) - 1 = (c : Int) := by omega
              have hx : (s[c].toNat : Int) = 46 := by rw [h46.2]; rfl
              have hx256 : (s[c].toNat : Int) < 256 := by omega
              have hcI : (c : Int) < (s.size : Int) := by omega
              have hc0 : (0 : Int) ≤ (c : Int) := by omega
              have hcI2 : (c : Int) ≤ (s.size : Int) := by omega
              clear hsk h46 hc46 ha hat
              go_wp2_with fail
              refine HPS3.out.mono ?_
              rintro e w5 ⟨v5, rfl, ho5, hb5⟩
              obtain ⟨A5, c5, rfl, -, -⟩ := ownsRow_form ho5
              have HB5 := Lib.hid (HB4.out.trans (hb5.mono HB4.out.size))
              clear ho5 hb5 HPS3 HN4 HO4
              go_wp2_with fail
              refine (HWE.out _ HB5.out).mono ?_
              rintro e w9 ⟨rfl, hb9⟩
              have HB9 := Lib.hid hb9
              clear hb9
              go_wp2
              go_ret
              exact ⟨rfl, HB9.out⟩
            · rw [hsk, if_neg h46] at hat
              obtain rfl : a = c := by omega
              have ha0 : ¬ (a : Int) < 0 := by omega
              have ha1 : ¬ (s.size : Int) < (a : Int) := by omega
              have hcI2 : (a : Int) ≤ (s.size : Int) := by omega
              have hcI3 : (0 : Int) ≤ (a : Int) := by omega
              by_cases ha2 : 0 < a
              · have ha2I : (0 : Int) < (a : Int) := by omega
                obtain ⟨b, hb⟩ : ∃ b, a = b + 1 := ⟨a - 1, by omega⟩
                have hbs : b < s.size := by omega
                have ha3 : (a : Int) - 1 = (b : Int) := by omega
                have hx : ((s[b].toNat : Int) == 46) = false := by
                  rw [beq_eq_false_iff_ne]
                  intro e
                  apply hc46 ha2
                  have hbb : b < (bs s).length := by rw [size_bs]; exact hbs
                  rw [show a - 1 = b by omega, List.getElem?_eq_getElem hbb]
                  have : s[b] = 46 := UInt8.toNat_inj.1 (by show s[b].toNat = 46; omega)
                  exact congrArg some this
                have hx256 : (s[b].toNat : Int) < 256 := by have := s[b].toNat_lt; omega
                have hbI : (b : Int) < (s.size : Int) := by omega
                have hb0 : (0 : Int) ≤ (b : Int) := by omega
                clear hsk h46 hc46 ha hat ha2 hb
                go_wp2_with fail
                refine HPS3.out.mono ?_
                rintro e w5 ⟨v5, rfl, ho5, hb5⟩
                obtain ⟨A5, c5, rfl, -, -⟩ := ownsRow_form ho5
                have HB5 := Lib.hid (HB4.out.trans (hb5.mono HB4.out.size))
                clear ho5 hb5 HPS3 HN4 HO4
                go_wp2_with fail
                refine (HWE.out _ HB5.out).mono ?_
                rintro e w9 ⟨rfl, hb9⟩
                have HB9 := Lib.hid hb9
                clear hb9
                go_wp2
                go_ret
                exact ⟨rfl, HB9.out⟩
              · have ha2I : ¬ (0 : Int) < (a : Int) := by omega
                clear hsk h46 hc46 ha hat ha2
                go_wp2_with fail
                refine HPS3.out.mono ?_
                rintro e w5 ⟨v5, rfl, ho5, hb5⟩
                obtain ⟨A5, c5, rfl, -, -⟩ := ownsRow_form ho5
                have HB5 := Lib.hid (HB4.out.trans (hb5.mono HB4.out.size))
                clear ho5 hb5 HPS3 HN4 HO4
                go_wp2_with fail
                refine (HWE.out _ HB5.out).mono ?_
                rintro e w9 ⟨rfl, hb9⟩
                have HB9 := Lib.hid hb9
                clear hb9
                go_wp2
                go_ret
                exact ⟨rfl, HB9.out⟩
  · have e1 : (caseE fs ms != 0) = true := by rw [bne_iff_ne]; exact hE
    have hB2 := HB1.out.trans (hb2.mono HB1.out.size)
    have HB2 := Lib.hid hB2
    clear hB2 hb2 hE k0 k1 k2
    go_wp2_with fail
    refine (HWE.out _ HB2.out).mono ?_
    rintro e w3 ⟨rfl, hb3⟩
    have HB3 := Lib.hid hb3
    clear hb3
    go_wp2
    go_ret
    exact ⟨rfl, HB3.out⟩
end Go.Proofs.YtohggdfplmlinaaDoor
