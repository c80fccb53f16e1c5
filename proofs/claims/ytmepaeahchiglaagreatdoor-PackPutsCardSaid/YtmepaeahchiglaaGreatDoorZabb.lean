/-
  layer 26: the reference's Check of a history with its prototypes and entries. Conditions: what can be read.
-/
import Derived.Test.YtmepaeahchiglaaGreatDoorZaPjZf
import Derived.Test.YtmepaeahchiglaaGreatDoorZaar
namespace Go.Proofs.YtmepaeahchiglaaGreatDoor
open Go.RowKit Go.Lib

set_option linter.unusedSimpArgs false in
set_option maxRecDepth 20000 in
set_option maxHeartbeats 4000000 in
theorem rattest_any (v4 v5 v6 v7 v8 : Value) (B : Nat) (t : List Nd) (laws : List Lw) (on : List (List Int)) (protos : List Fm) (es : List En) (w : World) (h4 : SlC NdC 2 w B t v4) (h5 : SlC LawC 18 w B laws v5) (h6 : SlC OnC 1 w B on v6) (h7 : SlC FormC 2 w B protos v7) (h8 : SlC EnC 2 w B es v8) (hB : B ≤ w.heap.size) (hs : ∀ x ∈ t, x.2.size ≤ maxLen) (hln : ∀ l ∈ laws, l.name.size ≤ maxLen) (hon : ∀ l ∈ on, l.length ≤ 1000000000) (hg : ∀ x ∈ es, x.gloss.size ≤ maxLen) (hop : ∀ f ∈ protos, ∀ s ∈ f.w, ok32 s) (hoe : ∀ x ∈ es, ∀ f ∈ x.forms, ∀ s ∈ f.w, ok32 s) :
    Calls Tryz.prog 101 #[.agg #[v4, v5, v6], v7, v8] w fun e w' => e = .returned (.int .i64 (attE t laws on protos es)) ∧ Below w.heap.size w w' := by
  obtain ⟨A4, m4, c4, rfl, -⟩ := h4.form
  obtain ⟨A5, m5, c5, rfl, -⟩ := h5.form
  obtain ⟨A6, m6, c6, rfl, -⟩ := h6.form
  obtain ⟨A7, m7, c7, rfl, e7⟩ := h7.form
  obtain ⟨A8, m8, c8, rfl, e8⟩ := h8.form
  have hm8 := h8.len.2.1
  have hm8' := h8.len.2.2
  have hm7 := h7.len.2.1
  have hm7' := h7.len.2.2
  unfold maxLen at hm8' hm7'
  obtain ⟨r, hre⟩ : ∃ r, attE t laws on protos es = r := ⟨_, rfl⟩
  rw [hre]
  rw [attE_eq] at hre
  have hb0 := (Below.refl w.heap.size w).alloc (Nat.le_refl _) (.cells #[.slice A4 m4 c4, .slice A5 m5 c5, .slice A6 m6 c6] 29)
  have hk0 := Blk.new w 29 #[.slice A4 m4 c4, .slice A5 m5 c5, .slice A6 m6 c6]
  have hkp := fun (W : World) (hW : Below w.heap.size w W) => fun (p : Addr) (hp : p.block < B) => hW.cell (p := p) (Nat.lt_of_lt_of_le hp hB)
  have hle := fun (W : World) (hW : Below w.heap.size w W) => Nat.le_trans hB hW.size
  have c1 := fun (W : World) (hW : Below w.heap.size w W) => rhist_any _ _ _ B t laws on W (SlC.plain (hkp W hW) h4 (fun _ _ h => h)) (SlC.plain (hkp W hW) h5 (fun _ _ h => h.keep (hkp W hW))) (SlC.plain (hkp W hW) h6 (fun _ _ h => OnC.keep (hkp W hW) h)) (hle W hW) hs hln hon
  have c2 := fun (W : World) (hW : Below w.heap.size w W) => rleaves_any _ B t W (SlC.plain (hkp W hW) h4 (fun _ _ h => h)) (hle W hW) hs
  have c3 := fun (W : World) (hW : Below w.heap.size w W) => rforms_any _ B protos W (SlC.plain (hkp W hW) h7 (fun _ _ h => FormC.keep (hkp W hW) h)) (hle W hW)
  have c4' := fun (W : World) (hW : Below w.heap.size w W) (x : En) (v : Value) (hv : SlC FormC 2 W B x.forms v) => rforms_any v B x.forms W hv (hle W hW)
  have c5' := fun (W : World) (hW : Below w.heap.size w W) => rwords_any _ B protos W (SlC.plain (hkp W hW) h7 (fun _ _ h => FormC.keep (hkp W hW) h)) (hle W hW) hop
  have c6' := fun (W : World) (hW : Below w.heap.size w W) (x : En) (hx : x ∈ es) (v : Value) (hv : SlC FormC 2 W B x.forms v) => rwords_any v B x.forms W hv (hle W hW) (hoe x hx)
  have h8' := fun (W : World) (hW : Below w.heap.size w W) => SlC.plain (hkp W hW) h8 (fun _ _ h => EnC.keep (hkp W hW) h)
  have C1 := Lib.hid (c1 _ hb0); have C2 := Lib.hid c2; have C3 := Lib.hid c3; have C4 := Lib.hid c4'; have C5 := Lib.hid c5'; have C6 := Lib.hid c6'; have H8 := Lib.hid h8'; have HG := Lib.hid hg; have HKP := Lib.hid hkp
  have HRE := Lib.hid hre; have E7 := Lib.hid e7; have E8 := Lib.hid e8; have HB0 := Lib.hid hb0; have HK0 := Lib.hid hk0
  have g0 := hk0.cell 0
  have g1 := hk0.cell 1
  have g2 := hk0.cell 2
  simp only [List.getElem?_toArray, List.getElem?_cons_zero, List.getElem?_cons_succ] at g0 g1 g2
  have hp := fun (W : World) (hW : Below w.heap.size w W) (hW2 : Blk W w.heap.size 29 #[.slice A4 m4 c4, .slice A5 m5 c5, .slice A6 m6 c6]) => hW2.cell 0
  have HP := Lib.hid hp
  obtain ⟨hle0, hlt0⟩ : w.heap.size ≤ (w.alloc (.cells #[.slice A4 m4 c4, .slice A5 m5 c5, .slice A6 m6 c6] 29)).heap.size ∧ w.heap.size < (w.alloc (.cells #[.slice A4 m4 c4, .slice A5 m5 c5, .slice A6 m6 c6] 29)).heap.size := by simp
  clear h4 h5 h6 h7 h8 c1 c2 c3 c4' c5' c6' h8' hkp hle hs hln hon hg hop hoe hre e7 e8 hb0 hk0 hp
  go_enter Tryz.func101, Tryz.ntmps101
  go_wp2_with fail
  refine C1.out.mono ?_
  rintro e w1 ⟨rfl, hb1⟩
  have HB1 := Lib.hid (HB0.out.trans (hb1.mono HB0.out.size)); have HK1 := Lib.hid (HK0.out.below hb1 hlt0)
  clear hb1 g0 g1 g2 C1
  by_cases hh : histE t laws on = 0
  case neg =>
    have hhI : (histE t laws on != (0 : Int)) = true := by rw [bne_iff_ne]; exact hh
    obtain rfl : r = histE t laws on := by rw [← HRE.out, if_neg hh]
    clear hh
    go_wp2
    go_ret
    exact ⟨rfl, HB1.out⟩
  have hhI : (histE t laws on != (0 : Int)) = false := by rw [hh]; rfl
  have hre := HRE.out
  rw [if_pos hh] at hre
  have HRE := Lib.hid hre
  have HT := Lib.hid (histE_parts hh).1
  have g0 := HK1.out.cell 0
  simp only [List.getElem?_toArray, List.getElem?_cons_zero, List.getElem?_cons_succ] at g0
  clear hh hre
  by_cases h256 : 256 < m8
  · have h256I : (256 : Int) < (m8 : Int) := by omega
    obtain rfl : r = 12 := by rw [← HRE.out, if_pos (by rw [← E8.out]; exact h256)]
    clear h256
    go_wp2
    go_ret
    exact ⟨rfl, HB1.out⟩
  have h256I : ¬ (256 : Int) < (m8 : Int) := by omega
  have hre := HRE.out
  rw [if_neg (by rw [← E8.out]; exact h256)] at hre
  have HRE := Lib.hid hre
  clear hre h256
  go_wp2_with fail
  refine (C2.out w1 HB1.out HT.out).mono ?_
  rintro e w2 ⟨AL, cL, rfl, hb2⟩
  have HB2 := Lib.hid (HB1.out.trans (hb2.mono HB1.out.size))
  obtain ⟨nl, hnl⟩ : ∃ nl, (leafs t).length = nl := ⟨_, rfl⟩
  have hre := HRE.out
  rw [hnl] at hre ⊢
  have HRE := Lib.hid hre
  clear hb2 g0 hnl
  by_cases h78 : m7 = m8
  case neg =>
    have h78I : ((m7 : Int) != (m8 : Int)) = true := by rw [bne_iff_ne]; omega
    obtain rfl : r = 2 := by rw [← HRE.out, if_neg (fun h => h78 (by rw [E7.out, E8.out]; exact h.1))]
    clear h78
    go_wp2
    go_ret
    exact ⟨rfl, HB2.out⟩
  have h78I : ((m7 : Int) != (m8 : Int)) = false := by rw [h78]; simp
  clear h78
  go_wp2_with fail
  refine (C3.out w2 HB2.out).mono ?_
  rintro e w3 ⟨rfl, hb3⟩
  have HB3 := Lib.hid (HB2.out.trans (hb3.mono HB2.out.size))
  have hre := HRE.out
  have h78 : protos.length = es.length := by
    rw [← E7.out, ← E8.out]
    by_cases e : m7 = m8
    · exact e
    · rw [bne_eq_false_iff_eq] at h78I; omega
  have hq1 : emptyF protos = false → r = 2 := fun e => by rw [← hre, if_neg (fun h => by rw [e] at h; exact absurd h.2 (by decide))]
  have hq2 := fun e : emptyF protos = true => (by rw [if_pos ⟨h78, e⟩] at hre; exact hre : (if entsE nl es = 0 then if wordsE protos = 0 then entsW es else wordsE protos else entsE nl es) = r)
  obtain ⟨q, hq⟩ : ∃ q, emptyF protos = q := ⟨_, rfl⟩
  rw [hq] at hq1 hq2 ⊢
  have HQ1 := Lib.hid hq1; have HQ2 := Lib.hid hq2
  clear hb3 hre h78 hq hq1 hq2
  cases q with
  | false =>
    obtain rfl : r = 2 := HQ1.out rfl
    go_wp2
    go_ret
    exact ⟨rfl, HB3.out⟩
  | true =>
    have HRE := Lib.hid (HQ2.out rfl)
    have hre := HRE.out
    have HR2 : Hid (es.all (entOk nl) = false → r = 2) := Lib.hid (fun h => by
      rw [show entsE nl es = 2 by unfold entsE; rw [if_neg (by rw [h]; decide)]] at hre
      rw [if_neg (by decide)] at hre
      exact hre.symm)
    clear hre
    go_wp2
    go_loopw [10] (fun i wr => ∃ k : Nat, k ≤ m8 ∧ i = .int .i64 k ∧ (es.take k).all (entOk nl) = true ∧ Below w.heap.size w wr) (fun i _ => m8 - (RowKit.intOf i).toNat)
    case atStart => exact ⟨0, by omega, rfl, by simp, HB3.out⟩
    case round =>
      obtain ⟨k, hk, rfl, hno, hb⟩ := hrel
      have HB := Lib.hid hb
      clear hb
      by_cases hlt : k < m8
      · have hkl : k < es.length := by have := E8.out; omega
        have hkI : (k : Int) < (m8 : Int) := by omega
        have hk0 : (0 : Int) ≤ (k : Int) := by omega
        have HNO := Lib.hid hno
        clear hno
        obtain ⟨ad, cs, rfl, had, hP, hcc⟩ := slC_cells en_len (H8.out wr HB.out) hkl
        obtain ⟨v, rfl, hv⟩ := hP
        obtain ⟨Ax, nx, cx, rfl, hnx⟩ := hv.form
        have e0 := hcc 0 _ rfl
        have e1 := hcc 1 _ rfl
        rw [Nat.add_zero] at e0
        rw [add_next ad (k * 2) 0] at e1
        obtain ⟨hst, hbad⟩ := all_next hkl HNO.out
        have hc := C4.out wr HB.out es[k] _ hv
        generalize es[k] = x at *
        have hen : entOk nl x = (decide (nx = nl) && emptyF x.forms) := by unfold entOk; rw [hnx]
        obtain ⟨gl, fl⟩ := x
        simp only [] at *
        obtain ⟨q, hq⟩ : ∃ q, emptyF fl = q := ⟨_, rfl⟩
        rw [hq] at hc hen
        rw [hen] at hst hbad
        have HC := Lib.hid hc; have HST := Lib.hid hst; have HBAD := Lib.hid hbad
        clear hst hbad hcc hv hc hnx hq hen
        by_cases hm : nx = nl
        · have hmI : ((nx : Int) != (nl : Int)) = false := by rw [hm]; simp
          have hst := HST.out; have hbad := HBAD.out
          rw [decide_eq_true hm, Bool.true_and] at hst hbad
          have HST := Lib.hid hst; have HBAD := Lib.hid hbad
          clear hm hst hbad
          go_wp2_with fail
          refine HC.out.mono ?_
          rintro e w2 ⟨rfl, hb2⟩
          have HB2 := Lib.hid (HB.out.trans (hb2.mono HB.out.size))
          clear hb2
          cases q with
          | true =>
            go_wp2
            go_roundw
            case rel => exact ⟨k + 1, by omega, by go_num, HST.out, HB2.out⟩
            case measure => simp [RowKit.intOf]; omega
          | false =>
            obtain rfl : r = 2 := HR2.out (HBAD.out rfl)
            go_wp2
            go_ret
            exact ⟨rfl, HB2.out⟩
        · have hmI : ((nx : Int) != (nl : Int)) = true := by rw [bne_iff_ne]; omega
          obtain rfl : r = 2 := HR2.out (HBAD.out (by rw [decide_eq_false hm]; rfl))
          clear hm
          go_wp2
          go_ret
          exact ⟨rfl, HB.out⟩
      · obtain rfl : m8 = k := by omega
        rw [List.take_of_length_le (by have := E8.out; omega)] at hno
        have hen : entsE nl es = if es.all (fun x => okName x.gloss) = true then 0 else 15 := by unfold entsE; rw [if_pos hno]
        have hre := HRE.out
        rw [hen] at hre
        have HR15 : Hid (es.all (fun x => okName x.gloss) = false → r = 15) := Lib.hid (fun h => by
        have e : (if es.all (fun x => okName x.gloss) = true then (0 : Int) else 15) = 15 := if_neg (by rw [h]; decide)
        rw [e, if_neg (by decide)] at hre
        exact hre.symm)
        have HRN : Hid (es.all (fun x => okName x.gloss) = true → (if wordsE protos = 0 then entsW es else wordsE protos) = r) := Lib.hid (fun h => by
        have e : (if es.all (fun x => okName x.gloss) = true then (0 : Int) else 15) = 0 := if_pos h
        rw [e, if_pos rfl] at hre
        exact hre)
        clear hno hre hen
        go_wp2
        go_loopw [11] (fun i wr => ∃ k : Nat, k ≤ m8 ∧ i = .int .i64 k ∧ (es.take k).all (fun x => okName x.gloss) = true ∧ Below w.heap.size w wr) (fun i _ => m8 - (RowKit.intOf i).toNat)
        case atStart => exact ⟨0, by omega, rfl, by simp, HB.out⟩
        case round =>
          obtain ⟨k, hk, rfl, hno, hb⟩ := hrel
          have HB := Lib.hid hb
          clear hb
          by_cases hlt : k < m8
          · have hkl : k < es.length := by have := E8.out; omega
            have hkI : (k : Int) < (m8 : Int) := by omega
            have hk0 : (0 : Int) ≤ (k : Int) := by omega
            have HNO := Lib.hid hno
            clear hno
            obtain ⟨ad, cs, rfl, had, hP, hcc⟩ := slC_cells en_len (H8.out wr HB.out) hkl
            obtain ⟨v, rfl, hv⟩ := hP
            obtain ⟨Ax, nx, cx, rfl, hnx⟩ := hv.form
            have e0 := hcc 0 _ rfl
            have e1 := hcc 1 _ rfl
            rw [Nat.add_zero] at e0
            rw [add_next ad (k * 2) 0] at e1
            obtain ⟨hst, hbad⟩ := all_next hkl HNO.out
            have hgl := HG.out _ (List.getElem_mem hkl)
            generalize es[k] = x at *
            obtain ⟨gl, fl⟩ := x
            simp only [] at *
            have hc := rname_any gl wr hgl
            obtain ⟨q, hq⟩ : ∃ q, okName gl = q := ⟨_, rfl⟩
            rw [hq] at hc hst hbad
            have HC := Lib.hid hc; have HST := Lib.hid hst; have HBAD := Lib.hid hbad
            clear hst hbad hcc hv hc hnx hq
            go_wp2_with fail
            refine HC.out.mono ?_
            rintro e w2 ⟨rfl, rfl⟩
            cases q with
            | true =>
              go_wp2
              go_roundw
              case rel => exact ⟨k + 1, by omega, by go_num, HST.out, HB.out⟩
              case measure => simp [RowKit.intOf]; omega
            | false =>
              obtain rfl : r = 15 := HR15.out (HBAD.out rfl)
              go_wp2
              go_ret
              exact ⟨rfl, HB.out⟩
          · obtain rfl : m8 = k := by omega
            rw [List.take_of_length_le (by have := E8.out; omega)] at hno
            have HR3a := Lib.hid (HRN.out hno)
            obtain ⟨wo, rfl⟩ : ∃ W, W = wr := ⟨_, rfl⟩
            clear hno
            go_wp2_with fail
            refine (C5.out wo HB.out).mono ?_
            rintro e w5 ⟨rfl, hb5⟩
            have HB5 := Lib.hid (HB.out.trans (hb5.mono HB.out.size))
            clear hb5
            obtain ⟨d, hd⟩ : ∃ d, wordsE protos = d := ⟨_, rfl⟩
            have hre := HR3a.out
            rw [hd] at hre ⊢
            have HD : Hid (d ≠ 0 → r = d) := Lib.hid (fun h => by rw [if_neg h] at hre; exact hre.symm)
            have HR3 : Hid (∀ {b : Int}, d = 0 → entsW es = b → r = b) := Lib.hid (fun h e => by rw [if_pos h] at hre; exact hre.symm.trans e)
            clear hre hd
            go_wp2
            go_loopw [7, 12] (fun x i wr => ∃ (k : Nat) (c : Int), k ≤ m8 ∧ i = .int .i64 k ∧ x = .int .i64 c ∧ (c = 0 → d = 0 ∧ entsW (es.take k) = 0) ∧ (c ≠ 0 → r = c) ∧ Below w.heap.size w wr) (fun _ i _ => m8 - (RowKit.intOf i).toNat)
            case atStart => exact ⟨0, d, by omega, rfl, rfl, fun h => ⟨h, by rw [List.take_zero]; rfl⟩, fun h => HD.out h, HB5.out⟩
            case round =>
              obtain ⟨k, c, hk, rfl, rfl, hno, hne, hb⟩ := hrel
              have HB := Lib.hid hb
              clear hb
              by_cases hlt : k < m8
              · have hkl : k < es.length := by have := E8.out; omega
                have hkI : (k : Int) < (m8 : Int) := by omega
                have hk0 : (0 : Int) ≤ (k : Int) := by omega
                have HNO := Lib.hid hno; have HNE := Lib.hid hne
                clear hno hne
                by_cases hc0 : c = 0
                case neg =>
                  obtain rfl : r = c := HNE.out hc0
                  have hcI : (r == (0 : Int)) = false := by rw [beq_eq_false_iff_ne]; exact hc0
                  clear hc0
                  go_wp2
                  go_ret
                  exact ⟨rfl, HB.out⟩
                have hcI : (c == (0 : Int)) = true := by rw [hc0]; rfl
                obtain ⟨hst, hbad⟩ := entsW_next hkl (HNO.out hc0).2
                have hd0 := (HNO.out hc0).1
                have HD0 := Lib.hid hd0
                clear hd0
                clear hc0 HNO HNE
                obtain ⟨ad, cs, rfl, had, hP, hcc⟩ := slC_cells en_len (H8.out wr HB.out) hkl
                obtain ⟨v, rfl, hv⟩ := hP
                obtain ⟨Ax, nx, cx, rfl, hnx⟩ := hv.form
                have e0 := hcc 0 _ rfl
                have e1 := hcc 1 _ rfl
                rw [Nat.add_zero] at e0
                rw [add_next ad (k * 2) 0] at e1
                have hmem : es[k] ∈ es := List.getElem_mem hkl
                have hc := C6.out wr HB.out _ hmem _ hv
                obtain ⟨b, hb⟩ : ∃ b, wordsE es[k].forms = b := ⟨_, rfl⟩
                rw [hb] at hc hst hbad
                generalize es[k] = x at *
                obtain ⟨gl, fl⟩ := x
                simp only [] at *
                have HC := Lib.hid hc; have HST := Lib.hid hst; have HBAD := Lib.hid hbad
                clear hst hbad hcc hv hc hb hmem hnx
                go_wp2_with fail
                refine HC.out.mono ?_
                rintro e w7 ⟨rfl, hb7⟩
                have HB7 := Lib.hid (HB.out.trans (hb7.mono HB.out.size))
                clear hb7
                go_wp2
                go_roundw
                case rel => exact ⟨k + 1, b, by omega, by go_num, rfl, fun e => ⟨HD0.out, by rw [HST.out]; exact e⟩, fun e => HR3.out HD0.out (HBAD.out e), HB7.out⟩
                case measure => simp [RowKit.intOf]; omega
              · obtain rfl : m8 = k := by omega
                have hr : r = c := by
                  by_cases hc0 : c = 0
                  · obtain ⟨hd, h⟩ := hno hc0
                    rw [List.take_of_length_le (by have := E8.out; omega)] at h
                    exact (HR3.out hd h).trans hc0.symm
                  · exact hne hc0
                subst hr
                clear hno hne
                go_wp2
                go_ret
                exact ⟨rfl, HB.out⟩
end Go.Proofs.YtmepaeahchiglaaGreatDoor
namespace Go.Proofs.YtmepaeahchiglaaGreatDoor
open Go.RowKit Go.Lib

def bigC (c : UInt8) : Bool := (decide (65 ≤ c.toNat) && decide (c.toNat ≤ 90)) || otherC c
theorem symC_two (c : UInt8) : symC c = (smallC c || bigC c) := by unfold symC bigC; rw [Bool.or_assoc]
theorem otherC_nat (c : UInt8) : otherC c = decide (c.toNat = 64 ∨ c.toNat = 63 ∨ c.toNat = 33 ∨ c.toNat = 38 ∨ c.toNat = 42 ∨ c.toNat = 36 ∨ c.toNat = 37) := by
  rw [Bool.eq_iff_iff]
  simp [otherC, ← UInt8.toNat_inj]
set_option linter.unusedSimpArgs false in
set_option maxRecDepth 20000 in
theorem letter_any (c : UInt8) (w : World) : Calls Tryz.prog 237 #[.int .u8 c.toNat] w fun e w' => e = .returned (.bool (smallC c)) ∧ w = w' := by
  have hc := c.toNat_lt
  obtain ⟨r, hr⟩ : ∃ r, smallC c = r := ⟨_, rfl⟩
  rw [hr]
  unfold smallC at hr
  generalize c.toNat = n at *
  have HR := Lib.hid hr
  clear hr
  go_enter Tryz.func237, Tryz.ntmps237
  go_wp2
  all_goals
    go_ret
    refine ⟨?_, rfl⟩
    rw [← HR.out]
    simp
    try (first | omega | (rw [Bool.eq_iff_iff]; simp only [Bool.or_eq_true, Bool.and_eq_true, decide_eq_true_eq, beq_iff_eq]; omega))
set_option maxRecDepth 20000 in
theorem big_any (c : UInt8) (w : World) : Calls Tryz.prog 238 #[.int .u8 c.toNat] w fun e w' => e = .returned (.bool (bigC c)) ∧ w = w' := by
  have hc := c.toNat_lt
  obtain ⟨r, hr⟩ : ∃ r, bigC c = r := ⟨_, rfl⟩
  rw [hr]
  unfold bigC at hr
  rw [otherC_nat] at hr
  generalize c.toNat = n at *
  have HR := Lib.hid hr
  clear hr
  go_enter Tryz.func238, Tryz.ntmps238
  go_wp2
  all_goals
    go_ret
    refine ⟨?_, rfl⟩
    rw [← HR.out]
    simp
    try (first | omega | (rw [Bool.eq_iff_iff]; simp only [Bool.or_eq_true, Bool.and_eq_true, decide_eq_true_eq, beq_iff_eq]; omega))
theorem okFeat_eq {s : ByteArray} (h : 0 < s.size) : okFeat s = (decide (s.size ≤ 16) && (decide (97 ≤ s[0].toNat) && (decide (s[0].toNat ≤ 122) && (bs s).all smallC))) := by
  have hb : 0 < (bs s).length := by rw [size_bs]; exact h
  have hh : (bs s).headD 0 = s[0] := by
    have h0 : ∀ (l : List UInt8) (h : 0 < l.length), l.headD 0 = l[0] := fun l h => by
      cases l with
      | nil => cases h
      | cons a l => rfl
    exact h0 _ hb
  unfold okFeat consC
  rw [hh, decide_eq_true (show 1 ≤ s.size from h), Bool.true_and, Bool.eq_iff_iff]
  simp only [Bool.and_eq_true, decide_eq_true_eq]
  constructor
  · rintro ⟨⟨h1, h2⟩, h3⟩
    have := List.all_eq_true.1 h2 s[0] (show (bs s)[0] ∈ bs s from List.getElem_mem hb)
    unfold smallC at this
    simp only [Bool.or_eq_true, Bool.and_eq_true, decide_eq_true_eq] at this
    exact ⟨h1, by omega, by omega, h2⟩
  · rintro ⟨h1, h2, h3, h4⟩
    exact ⟨⟨h1, h4⟩, by omega⟩
theorem okFeat_nil {s : ByteArray} (h : ¬ 0 < s.size) : okFeat s = false := by
  unfold okFeat consC
  rw [decide_eq_false (show ¬ 1 ≤ s.size from h)]; rfl
set_option maxRecDepth 20000 in
set_option maxHeartbeats 1000000 in
theorem isFeat_any (s : ByteArray) (w : World) (hs : s.size ≤ maxLen) : Calls Tryz.prog 222 #[.string s] w fun e w' => e = .returned (.bool (okFeat s)) ∧ w = w' := by
  unfold maxLen at hs
  have hl := size_bs s
  by_cases h0 : 0 < s.size
  · rw [okFeat_eq h0]
    obtain ⟨r, hr⟩ : ∃ r, (decide (s.size ≤ 16) && (decide (97 ≤ s[0].toNat) && (decide (s[0].toNat ≤ 122) && (bs s).all smallC))) = r := ⟨_, rfl⟩
    rw [hr]
    have HR := Lib.hid hr
    have h1 : ¬ (s.size : Int) < 1 := by omega
    have hx256 : (s[0].toNat : Int) < 256 := by have := s[0].toNat_lt; omega
    clear hr
    by_cases h16 : s.size ≤ 16
    · have h16I : ¬ (16 : Int) < (s.size : Int) := by omega
      by_cases h97 : 97 ≤ s[0].toNat
      · have h97I : ¬ (s[0].toNat : Int) < 97 := by omega
        by_cases h122 : s[0].toNat ≤ 122
        · have h122I : ¬ (122 : Int) < (s[0].toNat : Int) := by omega
          have hr2 : (bs s).all smallC = r := by rw [← HR.out, decide_eq_true h16, decide_eq_true h97, decide_eq_true h122]; rfl
          have HR2 := Lib.hid hr2
          clear hr2 HR h97 h122 h16
          go_enter Tryz.func222, Tryz.ntmps222
          go_wp2
          go_loopw [3] (fun i wr => ∃ k : Nat, k ≤ s.size ∧ i = .int .i64 k ∧ ((bs s).take k).all smallC = true ∧ w = wr) (fun i _ => s.size - (RowKit.intOf i).toNat)
          case atStart => exact ⟨0, by omega, rfl, rfl, rfl⟩
          case round =>
            obtain ⟨k, hk, rfl, hall, rfl⟩ := hrel
            have HALL := Lib.hid hall
            clear hall
            by_cases hlt : k < s.size
            · have hkI : (k : Int) < (s.size : Int) := by omega
              have hk0 : (0 : Int) ≤ (k : Int) := by omega
              have hkb : k < (bs s).length := by rw [hl]; exact hlt
              have hk256 : (s[k].toNat : Int) < 256 := by have := s[k].toNat_lt; omega
              have hnx := all_take_next smallC (bs s) k hkb
              rw [HALL.out, Bool.true_and] at hnx
              have hc := letter_any s[k] w
              cases hcs : smallC s[k] with
              | true =>
                rw [hcs] at hc
                have HC := Lib.hid hc
                have HNX := Lib.hid (hnx.trans hcs)
                clear hc hnx hcs
                go_wp2_with fail
                refine HC.out.mono ?_
                rintro e w1 ⟨rfl, rfl⟩
                go_wp2
                go_roundw
                case rel => exact ⟨k + 1, by omega, by go_num, HNX.out, trivial⟩
                case measure => simp [RowKit.intOf]; omega
              | false =>
                rw [hcs] at hc
                obtain rfl : r = false := by
                  rw [← HR2.out, List.all_eq_false]
                  exact ⟨s[k], List.getElem_mem hkb, by rw [hcs]; decide⟩
                have HC := Lib.hid hc
                clear hc hnx hcs
                go_wp2_with fail
                refine HC.out.mono ?_
                rintro e w1 ⟨rfl, rfl⟩
                go_wp2
                go_ret
                exact ⟨rfl, rfl⟩
            · obtain rfl : k = s.size := by omega
              obtain rfl : r = true := by
                rw [← HR2.out]
                have := HALL.out
                rwa [List.take_of_length_le (by rw [hl]; exact Nat.le_refl _)] at this
              go_wp2
              go_ret
              exact ⟨rfl, rfl⟩
        · have h122I : (122 : Int) < (s[0].toNat : Int) := by omega
          obtain rfl : r = false := by rw [← HR.out, decide_eq_true h16, decide_eq_true h97, decide_eq_false h122]; rfl
          clear HR h97 h122 h16
          go_enter Tryz.func222, Tryz.ntmps222
          go_wp2
          go_ret
          exact ⟨rfl, rfl⟩
      · have h97I : (s[0].toNat : Int) < 97 := by omega
        obtain rfl : r = false := by rw [← HR.out, decide_eq_true h16, decide_eq_false h97]; rfl
        clear HR h97 h16
        go_enter Tryz.func222, Tryz.ntmps222
        go_wp2
        go_ret
        exact ⟨rfl, rfl⟩
    · have h16I : (16 : Int) < (s.size : Int) := by omega
      obtain rfl : r = false := by rw [← HR.out, decide_eq_false h16]; rfl
      clear HR h16
      go_enter Tryz.func222, Tryz.ntmps222
      go_wp2
      go_ret
      exact ⟨rfl, rfl⟩
  · rw [okFeat_nil h0]
    have h1 : (s.size : Int) < 1 := by omega
    clear h0
    go_enter Tryz.func222, Tryz.ntmps222
    go_wp2
    go_ret
    exact ⟨rfl, rfl⟩
set_option maxRecDepth 20000 in
set_option maxHeartbeats 1000000 in
theorem isSymbol_any (s : ByteArray) (w : World) (hs : s.size ≤ maxLen) : Calls Tryz.prog 224 #[.string s] w fun e w' => e = .returned (.bool (okSym s)) ∧ w = w' := by
  unfold maxLen at hs
  have hl := size_bs s
  obtain ⟨r, hr⟩ : ∃ r, okSym s = r := ⟨_, rfl⟩
  rw [hr]
  unfold okSym consC at hr
  have HR := Lib.hid hr
  clear hr
  by_cases h0 : 1 ≤ s.size
  · have h1 : ¬ (s.size : Int) < 1 := by omega
    by_cases h4 : s.size ≤ 4
    · have h4I : ¬ (4 : Int) < (s.size : Int) := by omega
      have hr2 : (bs s).all symC = r := by rw [← HR.out, decide_eq_true h0, decide_eq_true h4]; rfl
      have HR2 := Lib.hid hr2
      clear hr2 HR h0 h4
      go_enter Tryz.func224, Tryz.ntmps224
      go_wp2
      go_loopw [3] (fun i wr => ∃ k : Nat, k ≤ s.size ∧ i = .int .i64 k ∧ ((bs s).take k).all symC = true ∧ w = wr) (fun i _ => s.size - (RowKit.intOf i).toNat)
      case atStart => exact ⟨0, by omega, rfl, rfl, rfl⟩
      case round =>
        obtain ⟨k, hk, rfl, hall, rfl⟩ := hrel
        have HALL := Lib.hid hall
        clear hall
        by_cases hlt : k < s.size
        · have hkI : (k : Int) < (s.size : Int) := by omega
          have hk0 : (0 : Int) ≤ (k : Int) := by omega
          have hkb : k < (bs s).length := by rw [hl]; exact hlt
          have hk256 : (s[k].toNat : Int) < 256 := by have := s[k].toNat_lt; omega
          have hnx := all_take_next symC (bs s) k hkb
          rw [HALL.out, Bool.true_and] at hnx
          have hc := letter_any s[k] w
          have hc2 := big_any s[k] w
          have hsy := symC_two s[k]
          cases hcs : smallC s[k] with
          | true =>
            rw [hcs] at hc hsy
            have HC := Lib.hid hc
            have HNX := Lib.hid (hnx.trans (hsy.trans (Bool.true_or _)))
            clear hc hc2 hnx hcs hsy
            go_wp2_with fail
            refine HC.out.mono ?_
            rintro e w1 ⟨rfl, rfl⟩
            go_wp2
            go_roundw
            case rel => exact ⟨k + 1, by omega, by go_num, HNX.out, trivial⟩
            case measure => simp [RowKit.intOf]; omega
          | false =>
            rw [hcs] at hc hsy
            cases hbs : bigC s[k] with
            | true =>
              rw [hbs] at hc2 hsy
              have HC := Lib.hid hc; have HC2 := Lib.hid hc2
              have HNX := Lib.hid (hnx.trans hsy)
              clear hc hc2 hnx hcs hsy hbs
              go_wp2_with fail
              refine HC.out.mono ?_
              rintro e w1 ⟨rfl, rfl⟩
              go_wp2_with fail
              refine HC2.out.mono ?_
              rintro e w1 ⟨rfl, rfl⟩
              go_wp2
              go_roundw
              case rel => exact ⟨k + 1, by omega, by go_num, HNX.out, trivial⟩
              case measure => simp [RowKit.intOf]; omega
            | false =>
              rw [hbs] at hc2 hsy
              obtain rfl : r = false := by
                rw [← HR2.out, List.all_eq_false]
                exact ⟨s[k], List.getElem_mem hkb, by rw [hsy]; decide⟩
              have HC := Lib.hid hc; have HC2 := Lib.hid hc2
              clear hc hc2 hnx hcs hsy hbs
              go_wp2_with fail
              refine HC.out.mono ?_
              rintro e w1 ⟨rfl, rfl⟩
              go_wp2_with fail
              refine HC2.out.mono ?_
              rintro e w1 ⟨rfl, rfl⟩
              go_wp2
              go_ret
              exact ⟨rfl, rfl⟩
        · obtain rfl : k = s.size := by omega
          obtain rfl : r = true := by
            rw [← HR2.out]
            have := HALL.out
            rwa [List.take_of_length_le (by rw [hl]; exact Nat.le_refl _)] at this
          go_wp2
          go_ret
          exact ⟨rfl, rfl⟩
    · have h4I : (4 : Int) < (s.size : Int) := by omega
      obtain rfl : r = false := by rw [← HR.out, decide_eq_true h0, decide_eq_false h4]; rfl
      clear HR h4 h0
      go_enter Tryz.func224, Tryz.ntmps224
      go_wp2
      go_ret
      exact ⟨rfl, rfl⟩
  · have h1 : (s.size : Int) < 1 := by omega
    obtain rfl : r = false := by rw [← HR.out, decide_eq_false h0]; rfl
    clear HR h0
    go_enter Tryz.func224, Tryz.ntmps224
    go_wp2
    go_ret
    exact ⟨rfl, rfl⟩
end Go.Proofs.YtmepaeahchiglaaGreatDoor
