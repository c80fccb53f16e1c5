/-
  CollateSorts of layer 39, walked. Conditions: the cell of the library's MaxLen holds some int; arguments of the reach.
-/
import Derived.Test.YtcdpadggjkobjaaGreatDoorSrtP
import Derived.Test.YtcdpadggjkobjaaGreatDoorSorted
import Derived.Test.YtcdpadggjkobjaaGreatDoorWritten
import Derived.Test.YtcdpadggjkobjaaGreatDoorOpen2
import Derived.Deep.RegionLaw
namespace Go.Proofs.YtcdpadggjkobjaaGreatDoor
open Go.RowKit Go.Lib

theorem Reads.go {w w' : World} {size n : Nat} {A : Option Addr} {xs : List Value} (h : Reads w w.heap.size size A n xs) (hb : Below w.heap.size w w') : Reads w' w'.heap.size size A n xs := (h.below hb).more hb.size
theorem ReadS.go {w w' : World} {n : Nat} {A : Option Addr} {xs : List ByteArray} (h : ReadS w w.heap.size A n xs) (hb : Below w.heap.size w w') : ReadS w' w'.heap.size A n xs := Reads.go h hb
theorem ReadI.go {w w' : World} {n : Nat} {A : Option Addr} {xs : List Int} (h : ReadI w w.heap.size A n xs) (hb : Below w.heap.size w w') : ReadI w' w'.heap.size A n xs := Reads.go h hb
theorem Below.go {B : Nat} {a w w' : World} (h : Below B a w) (hB : B ≤ a.heap.size) (hb : Below w.heap.size w w') : Below B a w' := h.trans (hb.mono (Nat.le_trans hB h.size))
theorem TextsPost.reads {w w' : World} {r : Int × List ByteArray} {e : Ending} (h : TextsPost w r e w') :
    ∃ A n c, e = .returned (.tuple #[.slice A n c, .int .i64 r.1]) ∧ ReadS w' w'.heap.size A n r.2 ∧ n ≤ maxLen ∧ Below w.heap.size w w' := by
  obtain ⟨A, n, c, rfl, ho, _, h1, h2, hb⟩ := h.form
  exact ⟨A, n, c, rfl, Reads.of_own ho, by omega, hb⟩
theorem own_pos {w : World} {base : Nat} {e : TypeId} {v : Value} {n : Nat} {xs : List Value} (h : w.ownsRow base e 1 v n xs) (h0 : 0 < n) :
    ∃ q c, v = .slice (some ⟨q, 0, none⟩) n c ∧ n ≤ c ∧ c ≤ maxLen ∧ base ≤ q ∧ q < w.heap.size ∧ (∀ (j : Nat) x, xs[j]? = some x → w.cell? ⟨q, j, none⟩ = some x) ∧ ∀ j, w.frozen? ⟨q, j, none⟩ = false := by
  obtain ⟨A, c, rfl, h1, h2⟩ := ownsRow_form h
  have hr := Reads.of_own h
  rcases h.2 with ⟨h', hn⟩ | ⟨q, cap, cur, h', hb, hg, _⟩
  · omega
  · simp only [Value.slice.injEq, true_and] at h'
    obtain ⟨rfl, rfl⟩ := h'
    refine ⟨q, c, rfl, h1, h2, hb, (Array.getElem?_eq_some_iff.1 hg).1, fun j x hj => ?_, fun j => Blk.frozen hg j⟩
    obtain ⟨ad, had, _, hc⟩ := hr.2 h0
    injection had with had
    subst had
    have := hc j x hj
    rwa [add_at] at this
theorem sameRes_self (r : Res) : sameRes r r = decide (r.1 = 0) := by
  unfold sameRes errTwo
  by_cases h : r.1 = 0
  · rw [if_pos h]; simp [h]
  · rw [if_neg h]; simp [h]
theorem own_keep {w w' : World} {base n : Nat} {e : TypeId} {v : Value} {xs : List Value} {row : Option Nat} (h : w.ownsRow base e 1 v n xs) (hg : w.grownBy w' row) (hne : ∀ q, v.ownBlock = some q → row ≠ some q) : w'.ownsRow base e 1 v n xs := by
  refine h.kept hg ?_
  cases e : v.ownBlock with
  | none => exact .inl rfl
  | some q => exact .inr fun e' => hne q e e'.symm
set_option maxRecDepth 100000 in
set_option maxHeartbeats 8000000 in
theorem sorts_any (A A2 : Option Addr) (n c n2 c2 : Nat) (ss : List ByteArray) (rows : List (List UInt8)) (x y : Nat) (hx : x < 256) (hy : y < 256) (w : World) (hm : MaxOk w) (hr : ReadS w w.heap.size A n ss) (hs : ∀ s ∈ ss, okS s) (hnc : n ≤ c) (hc : c ≤ maxLen)
    (hr2 : ReadBB w w.heap.size A2 n2 rows) (hn2 : n2 ≤ c2) (hc2 : c2 ≤ maxLen) :
    Calls Tryz.prog 3 #[.slice A n c, .slice A2 n2 c2, .int .u8 x, .int .u8 y] w (WorksPost w) := by
  have hf := few_any A n c ss 300 3000 w _ hr hs (by omega) (by omega)
  by_cases h1 : fewB ss 300 3000 = true
  · have h3 := fewB_yes h1
    have hL := hr.len
    rw [h1] at hf
    have hmk := madeF_any A n c ss w hm hr (by omega) hnc hc (by omega)
    have kw := fun W (hb : Below w.heap.size w W) => works_any W (hm.below hb)
    have KW := Lib.hid kw; have HR2 := Lib.hid hr2; have HL2 := Lib.hid hr2.1
    obtain ⟨i0, hi, hz0, hz1, hz2⟩ := info_parts info_string
    have hc2' := hc2
    unfold maxLen at hc2'
    obtain ⟨m, hmn, hm30, hmin⟩ : ∃ m : Nat, m ≤ n2 ∧ m ≤ 30 ∧ (min (n2 : Int) 30) = m := ⟨min n2 30, by omega, by omega, by omega⟩
    have hmax : max (m : Int) 0 = m := by omega
    clear kw hL h3 h1 hm hr hs hnc hc hr2
    go_enter Tryz.func3, Tryz.ntmps3
    go_wp2_with fail
    refine hf.mono ?_
    rintro e w' ⟨rfl, rfl⟩
    go_wp2_with fail
    refine hmk.mono ?_
    rintro e w1 ⟨g, ls0, rfl, hA, hG, herr, hl60, hl3000, hb1⟩
    have hA1 : AlphO w1 (some ⟨g, 0, none⟩) (some (groupsB ls0)) := ⟨g, rfl, hA, hG⟩
    have hfl : (groupsB ls0).flatten.length ≤ 16384 := by
      have := totalP_le ls0
      unfold totalP at this
      omega
    have h8 : ∀ x ∈ (groupsB ls0).flatten, x.size ≤ 8 := fun x hx => by
      rw [← ents_fst] at hx
      obtain ⟨e, he, rfl⟩ := List.mem_map.1 hx
      exact (hG.size he).2
    have HA1 := Lib.hid hA1; have HFL := Lib.hid hfl; have H8 := Lib.hid h8; have HG := Lib.hid hG
    clear hmk hf hA hG herr hl60 hl3000 hA1 hfl h8
    generalize groupsB ls0 = gs at HA1 HFL H8 HG
    go_wp2_with fail
    clear hmin hmax
    go_loopw [10, 45] (fun v i wr => ∃ (k : Nat) (ls : List ByteArray), k ≤ m ∧ i = .int .i64 k ∧ wr.ownsRow w1.heap.size 9 1 v ls.length (strs ls) ∧ (∀ s ∈ ls, (readRes gs s).1 = 0) ∧ ls.length ≤ k ∧ Below w1.heap.size w1 wr) (fun _ i _ => m - (intOf i).toNat)
    case atStart => exact ⟨0, [], by omega, rfl, World.ownsRow_nil _ _ _ _, (fun s hs => absurd hs (by simp)), Nat.le_refl _, Below.refl _ _⟩
    case round =>
      obtain ⟨k, ls, hk, rfl, hown, hgood, hlk, hb⟩ := hrel
      have HGOOD := Lib.hid hgood; clear hgood
      have hb0 := hb1.trans (hb.mono hb1.size)
      by_cases hlt : k < m
      · have hkr : k < rows.length := by rw [HL2.out]; omega
        obtain ⟨ad, A', c', rfl, hcr, hcrb, hrb, hlc, hlc2⟩ := (HR2.out.below hb0).2 k hkr
        generalize rows[k] = row at hcr hrb hlc
        have hwr := written_any (some ⟨g, 0, none⟩) (some gs) A' row.length c' row wr (HA1.out.below hb) HFL.out H8.out (Reads.more hrb hb0.size) hlc hlc2
        have hlc3 := hlc2
        unfold maxLen at hlc3
        generalize row.length = rl at hcr hwr hlc
        clear hrb
        go_wp2_with fail
        refine hwr.mono ?_
        rintro e w2 ⟨s, rfl, hs480, hb2⟩
        have hown2 := own_below hown hb2
        have hbw2 := hb.trans (hb2.mono hb.size)
        have hsm := same_any (some ⟨g, 0, none⟩) (some gs) s s w2 ((HA1.out.below hb).below hb2)
        rw [sameRes_self, show readResO (some gs) s = readRes gs s from rfl] at hsm
        have hemp := readRes_empty (gs := gs) (s := s)
        have HEMP := Lib.hid hemp
        clear hown hwr hcr hemp
        by_cases hs0 : s.size = 0
        · obtain rfl : s = ⟨#[]⟩ := bl_inj (List.eq_nil_of_length_eq_zero (by rw [bl_len]; exact hs0))
          clear hs0 hsm
          go_wp2_with (at_builtin; refine wpList_append_own _ rfl _ _ 22 rfl w1.heap.size 9 i0 (.string ByteArray.empty) 1 16 Tryz.underlying22 hi hz0 hz1 hz2 rfl (by decide) _ _ _ rfl (hown2.alloc _) ⟨w2.heap.size, 0, none⟩ 1 1 [.string ⟨#[]⟩] rfl rfl (cell_one_new _ _ _) (by simp [Value.oneCell']) (by unfold maxLen; omega) (by omega) (by have := hbw2.size; simp; omega) ?_; intro v' w3 hown' hgrow hx; clear hx)
          have hb3 : Below w1.heap.size w1 w3 := (hbw2.alloc hbw2.size _).grown hgrow (by have := hbw2.size; simp; omega) (fun g hg => (hown2.lt g hg).1)
          clear hgrow hown2
          go_roundw
          case rel =>
            refine ⟨k + 1, ls ++ [⟨#[]⟩], by omega, by go_num, by simpa using hown', fun x hx => ?_, by simp; omega, hb3⟩
            rcases List.mem_append.1 hx with hx | hx
            · exact HGOOD.out x hx
            · rw [List.mem_singleton.1 hx, HEMP.out rfl]
          case measure => simp [intOf]; omega
        · have hspos : 0 < s.size := by omega
          have hne1 : ¬ s = ByteArray.empty := fun e => by subst e; exact hs0 rfl
          have hne2 : ((s.size : Int) == 0) = false := by rw [beq_eq_false_iff_ne]; omega
          have hne3 : ¬ (s.size : Int) = 0 := by omega
          have hse : (s.toList == []) = false := by
            rw [Lib.toList_data, beq_eq_false_iff_ne]; intro e
            have := bl_len s; rw [show bl s = s.data.toList from rfl, e] at this; simp at this; omega
          have hse2 : s.toList.isEmpty = false := by
            rw [Lib.toList_data]
            cases hh : s.data.toList with
            | nil => have := bl_len s; rw [show bl s = s.data.toList from rfl, hh] at this; simp at this; omega
            | cons _ _ => rfl
          by_cases hrd : (readRes gs s).1 = 0
          · rw [decide_eq_true hrd] at hsm
            have HRD := Lib.hid hrd
            clear hs0 hrd
            go_wp2_with fail
            refine hsm.mono ?_
            rintro e w3 ⟨rfl, hb3⟩
            have hown3 := own_below hown2 hb3
            have hbw3 := hbw2.trans (hb3.mono hbw2.size)
            clear hown2 hsm
            go_wp2_with (at_builtin; refine wpList_append_own _ rfl _ _ 22 rfl w1.heap.size 9 i0 (.string ByteArray.empty) 1 16 Tryz.underlying22 hi hz0 hz1 hz2 rfl (by decide) _ _ _ rfl (hown3.alloc _) ⟨w3.heap.size, 0, none⟩ 1 1 [.string s] rfl rfl (cell_one_new _ _ _) (by simp [Value.oneCell']) (by unfold maxLen; omega) (by omega) (by have := hbw3.size; simp; omega) ?_; intro v' w4 hown' hgrow hx; clear hx)
            have hb4 : Below w1.heap.size w1 w4 := (hbw3.alloc hbw3.size _).grown hgrow (by have := hbw3.size; simp; omega) (fun g hg => (hown3.lt g hg).1)
            clear hgrow hown3
            go_roundw
            case rel =>
              refine ⟨k + 1, ls ++ [s], by omega, by go_num, by simpa using hown', fun x hx => ?_, by simp; omega, hb4⟩
              rcases List.mem_append.1 hx with hx | hx
              · exact HGOOD.out x hx
              · rw [List.mem_singleton.1 hx]; exact HRD.out
            case measure => simp [intOf]; omega
          · rw [decide_eq_false hrd] at hsm
            clear hs0 hrd
            go_wp2_with fail
            refine hsm.mono ?_
            rintro e w3 ⟨rfl, hb3⟩
            have hown3 := own_below hown2 hb3
            have hbw3 := hbw2.trans (hb3.mono hbw2.size)
            clear hown2 hsm
            go_wp2
            go_roundw
            case rel => exact ⟨k + 1, ls, by omega, by go_num, hown3, HGOOD.out, by omega, hbw3⟩
            case measure => simp [intOf]; omega
      · obtain rfl : k = m := by omega
        obtain ⟨AT, cT, rfl, hT1, hT2⟩ := ownsRow_form hown
        have hSO := srtOk HGOOD.out (by omega)
        generalize gotL gs ls = L at hSO
        have hrl : ls.reverse.length = ls.length := List.length_reverse
        generalize hNN : ls.length = N at *
        have hTq : ∀ q, (Value.slice AT N cT).ownBlock = some q → q < wr.heap.size := fun q h => (hown.lt q h).2
        have HSO := Lib.hid hSO; have HNN := Lib.hid hNN; have HTQ := Lib.hid hTq; have HT := Lib.hid hown; have HB := Lib.hid hb; have HRL := Lib.hid hrl
        have hLN : L.length = N := hSO.len.trans hNN
        have HLN := Lib.hid hLN
        have HB1 := Lib.hid hb1
        clear hSO hNN hTq hown hb hrl hLN hb0 hb1 hlt HGOOD HR2 HL2 hk hmn HFL H8 HG
        have hs := sort_any (some ⟨g, 0, none⟩) (some gs) AT N cT ls wr (HA1.out.below HB.out) (Reads.of_own HT.out) (by unfold maxLen; omega)
        rw [HSO.out.s1] at hs
        go_wp2_with fail
        refine hs.mono ?_
        rintro e w2 hp
        obtain ⟨AG, n14, cG, rfl, hG, hn14, hG1, hG2, hb2⟩ := hp.form
        obtain rfl : N = n14 := by rw [hn14]; exact HLN.out.symm
        have HG : Hid (w2.ownsRow wr.heap.size 9 1 (.slice AG N cG) N (strs L)) := hG
        have HT2 := Lib.hid (own_below HT.out hb2)
        have HB2 := Lib.hid (Below.go HB.out (Nat.le_refl _) hb2)
        have hGq : ∀ q, (Value.slice AG N cG).ownBlock = some q → wr.heap.size ≤ q ∧ q < w2.heap.size := fun q h => hG.lt q h
        have HGQ := Lib.hid hGq
        have hs2 := hb2.size
        clear hp hs hG hb2 HT HB hGq hn14
        go_wp2
        go_loopw [16] (fun z W => ∃ i : Nat, (i + 1 ≤ N ∨ i = 0) ∧ z = .int .i64 ((i : Int) + 1) ∧ Below w2.heap.size w2 W) (fun z _ => N - (intOf z).toNat)
        case atStart => exact ⟨0, by omega, rfl, Below.refl _ _⟩
        case round =>
          obtain ⟨i, hi1, rfl, hbl⟩ := hrel
          by_cases hlt : i + 1 < N
          · have hil : i < L.length := by rw [HLN.out]; omega
            have hil1 : i + 1 < L.length := by rw [HLN.out]; exact hlt
            obtain ⟨qG, cG', hAG, _, _, _, _, hcz, _⟩ := own_pos (own_below HG.out hbl) (by omega)
            simp only [Value.slice.injEq, true_and] at hAG
            obtain ⟨rfl, rfl⟩ := hAG
            have hc0 := hcz i (.string L[i]) (by simp [strs, List.getElem?_eq_getElem hil])
            have hc1 := hcz (i + 1) (.string L[i + 1]) (by simp [strs, List.getElem?_eq_getElem hil1])
            clear hcz
            obtain ⟨v, hv, hord⟩ := HSO.out.ord i hil1
            have hor := fun W h => order_any (some ⟨g, 0, none⟩) (some gs) L[i] L[i + 1] W h
            rw [show orderRes (readResO (some gs) L[i]) (readResO (some gs) L[i + 1]) L[i] L[i + 1] = (v, 0) from hord] at hor
            generalize L[i] = s1 at hc0 hor
            generalize L[i + 1] = s2 at hc1 hor
            have HOR := Lib.hid hor
            have hAW := (HA1.out.below HB2.out).below hbl
            have hAD := hAW.below ((Below.refl _ _).drew)
            have HAD := Lib.hid hAD
            have htn : ((i : Int) + 1).toNat = i + 1 := by omega
            have hbi1 : (0 : Int) ≤ (i : Int) + 1 := by omega
            have hbi2 : (i : Int) + 1 < (N : Int) := by omega
            have hbi3 : (i : Int) < (N : Int) := by omega
            have hbi4 : (0 : Int) ≤ (i : Int) := by omega
            have hwi : IntKind.i64.wrap (i : Int) = (i : Int) := by rw [IntKind.wrap_i64]; omega
            have hwi1 : IntKind.i64.wrap ((i : Int) + 1) = (i : Int) + 1 := by rw [IntKind.wrap_i64]; omega
            have htn0 : (i : Int).toNat = i := by omega
            have hvd : decide ((0 : Int) < v) = false := decide_eq_false (by omega)
            have hv' : ¬ (0 : Int) < v := by omega
            clear hord hor hAW hAD hv
            go_wp2_with fail
            go_region_with (go_at_call 10; refine (HOR.out _ HAD.out).mono ?_; rintro e w3 ⟨rfl, hb3⟩)
            all_goals
              have hbl3 := (hbl.drew).trans (hb3.mono hbl.drew.size)
              first
                | exact ⟨⟨i + 1, by omega, by go_num, hbl3⟩, by simp [intOf]; omega⟩
                | (go_wp2; go_roundw; (case rel => exact ⟨i + 1, by omega, by go_num, hbl3⟩); (case measure => (simp [intOf]; omega)))
          · have hltI : ¬ ((i : Int) + 1 < (N : Int)) := by omega
            clear hlt hi1
            have hsW := hbl.size
            have hs1 := HB2.out.size
            have hs := sort_any (some ⟨g, 0, none⟩) (some gs) AG N cG L wr ((HA1.out.below HB2.out).below hbl) (Reads.of_own (own_below HG.out hbl)) (by unfold maxLen; omega)
            rw [HSO.out.s2] at hs
            have HGw := Lib.hid (own_below HG.out hbl)
            have HTw := Lib.hid (own_below HT2.out hbl)
            have HBw := Lib.hid (Below.go HB2.out (Nat.le_refl _) hbl)
            clear HG HT2 HB2 hbl
            go_wp2_with fail
            refine hs.mono ?_
            rintro e w3 hp
            obtain ⟨AR, nR, cR, rfl, hR, hnR, _, _, hb3⟩ := hp.form
            obtain rfl : N = nR := by rw [hnR]; exact HLN.out.symm
            have HR : Hid (w3.ownsRow wr.heap.size 9 1 (.slice AR N cR) N (strs L)) := hR
            have HRQ : Hid (∀ q, (Value.slice AR N cR).ownBlock = some q → wr.heap.size ≤ q ∧ q < w3.heap.size) := fun q h => hR.lt q h
            have HG3 := Lib.hid (own_below HGw.out hb3); have HT3 := Lib.hid (own_below HTw.out hb3); have HB3 := Lib.hid (Below.go HBw.out (Nat.le_refl _) hb3)
            have hs3 := hb3.size
            clear hp hs hR hnR hb3 HGw HTw HBw
            go_wp2_with fail
            refine (cloneS_any AT N cT ls w3 w3.heap.size (Reads.of_own HT3.out) (Nat.le_refl _) (by omega)).mono ?_
            rintro e w4 ⟨vC, rfl, hC, hb4⟩
            rw [HNN.out] at hC
            obtain ⟨AC, cC, rfl, _, _⟩ := ownsRow_form hC
            have HC := Lib.hid hC
            have HCQ : Hid (∀ q, (Value.slice AC N cC).ownBlock = some q → w3.heap.size ≤ q ∧ q < w4.heap.size) := fun q h => hC.lt q h
            have HG4 := Lib.hid (own_below HG3.out hb4); have HT4 := Lib.hid (own_below HT3.out hb4); have HR4 := Lib.hid (own_below HR.out hb4); have HB4 := Lib.hid (Below.go HB3.out (Nat.le_refl _) hb4)
            have hs4 := hb4.size
            clear hC hb4 HG3 HT3 HR HB3
            go_wp2_with fail
            refine (reverse_row HT4.out (by omega)).mono ?_
            rintro e w5 ⟨rfl, hT5, hg5⟩
            have HT5 := Lib.hid hT5
            have HG5 := Lib.hid (own_keep HG4.out hg5 (fun q h e => by have h1 := HGQ.out q h; have h2 := HTQ.out q e; omega))
            have HR5 := Lib.hid (own_keep HR4.out hg5 (fun q h e => by have h1 := HRQ.out q h; have h2 := HTQ.out q e; omega))
            have HC5 := Lib.hid (own_keep HC.out hg5 (fun q h e => by have h1 := HCQ.out q h; have h2 := HTQ.out q e; omega))
            have HB5 := Lib.hid (HB4.out.grown hg5 HB4.out.size (fun q e => (HT4.out.lt q e).1))
            have hs5 := hg5.size
            clear hT5 hg5 HT4 HG4 HR4 HC HB4
            have hs := sort_any (some ⟨g, 0, none⟩) (some gs) AT N cT ls.reverse w5 (HA1.out.below HB5.out) (Reads.of_own HT5.out) (by unfold maxLen; omega)
            rw [HSO.out.s3] at hs
            go_wp2_with fail
            refine hs.mono ?_
            rintro e w6 hp
            obtain ⟨AU, nU, cU, rfl, hU, hnU, _, _, hb6⟩ := hp.form
            obtain rfl : N = nU := by rw [hnU]; exact HLN.out.symm
            have HU : Hid (w6.ownsRow w5.heap.size 9 1 (.slice AU N cU) N (strs L)) := hU
            have HUQ : Hid (∀ q, (Value.slice AU N cU).ownBlock = some q → w5.heap.size ≤ q ∧ q < w6.heap.size) := fun q h => hU.lt q h
            have HG6 := Lib.hid (own_below HG5.out hb6); have HT6 := Lib.hid (own_below HT5.out hb6); have HR6 := Lib.hid (own_below HR5.out hb6); have HC6 := Lib.hid (own_below HC5.out hb6); have HB6 := Lib.hid (Below.go HB5.out (Nat.le_refl _) hb6)
            have hs6 := hb6.size
            clear hp hs hU hnU hb6 HG5 HT5 HR5 HC5 HB5
            go_wp2_with fail
            refine (sort_row HC6.out (by omega)).mono ?_
            rintro e w7 ⟨rfl, hC7, hg7⟩
            have HC7 := Lib.hid hC7
            have HG7 := Lib.hid (own_keep HG6.out hg7 (fun q h e => by have h1 := HGQ.out q h; have h2 := HCQ.out q e; omega))
            have HR7 := Lib.hid (own_keep HR6.out hg7 (fun q h e => by have h1 := HRQ.out q h; have h2 := HCQ.out q e; omega))
            have HU7 := Lib.hid (own_keep HU.out hg7 (fun q h e => by have h1 := HUQ.out q h; have h2 := HCQ.out q e; omega))
            have HT7 := Lib.hid (own_keep HT6.out hg7 (fun q h e => by have h1 := HTQ.out q h; have h2 := HCQ.out q e; omega))
            have HB7 := Lib.hid (HB6.out.grown hg7 HB6.out.size (fun q e => by have := HCQ.out q e; omega))
            have hs7 := hg7.size
            clear hC7 hg7 HC6 HG6 HR6 HU HT6 HB6
            go_wp2_with fail
            refine (values_any AG N cG w7).mono ?_
            rintro e w8 ⟨rfl, rfl⟩
            go_wp2_with fail
            refine (sortedV AG N cG w7.heap.size L _ (by exact Blk.new w7 _ _) (by exact Reads.more ((Reads.of_own HG7.out).alloc (Nat.le_refl _) _) (by simp)) (by omega)).mono ?_
            rintro e w9 ⟨vS, rfl, hS, hb9⟩
            rw [sortS_length, HLN.out, HSO.out.ss] at hS
            obtain ⟨AS, cS, rfl, _, _⟩ := ownsRow_form hS
            have HS := Lib.hid hS
            have HG9 := Lib.hid (own_below (HG7.out.alloc _) hb9); have HR9 := Lib.hid (own_below (HR7.out.alloc _) hb9); have HU9 := Lib.hid (own_below (HU7.out.alloc _) hb9); have HT9 := Lib.hid (own_below (HT7.out.alloc _) hb9); have HC9 := Lib.hid (own_below (HC7.out.alloc _) hb9)
            have HB9 := Lib.hid (Below.go (HB7.out.alloc HB7.out.size (.cells #[.slice AG N cG] 22)) (Nat.le_refl _) hb9)
            clear hS hb9 HG7 HR7 HU7 HT7 HC7 HB7 HRQ HCQ HUQ
            have hNm : N ≤ maxLen := by unfold maxLen; omega
            go_wp2_with fail
            refine (equalS_refl AR AG N N cR cG _ _ _ _ (Reads.of_own HR9.out) (Reads.of_own HG9.out) hNm).mono ?_
            rintro e w10 ⟨rfl, q1, rfl⟩
            go_wp2_with fail
            refine (equalS_refl AU AG N N cU cG _ _ _ _ (Reads.drewN (Reads.of_own HU9.out) q1) (Reads.drewN (Reads.of_own HG9.out) q1) hNm).mono ?_
            rintro e w11 ⟨rfl, q2, rfl⟩
            rw [World.drewN_drewN]
            generalize q1 + q2 = q3
            go_wp2_with fail
            refine (equalS_refl AC AS N N cC cS _ _ _ _ (Reads.drewN (Reads.of_own HC9.out) q3) (Reads.drewN (Reads.of_own HS.out) q3) hNm).mono ?_
            rintro e w12 ⟨rfl, q4, rfl⟩
            rw [World.drewN_drewN]
            generalize q3 + q4 = q5
            have HG12 := Lib.hid (own_below HG9.out (below_drewN (Below.refl _ _) q5)); have HT12 := Lib.hid (own_below HT9.out (below_drewN (Below.refl _ _) q5)); have HB12 := Lib.hid (below_drewN HB9.out q5)
            have hsz : (w9.drewN q5).heap.size = w9.heap.size := rfl
            clear HG9 HT9 HB9 HR9 HU9 HC9 HS
            generalize w9.drewN q5 = w12 at *
            have HB0 := Lib.hid (HB1.out.trans (HB12.out.mono HB1.out.size))
            rcases Nat.eq_zero_or_pos N with h0 | h0
            · subst h0
              go_wp2_with fail
              refine (KW.out _ HB0.out).mono ?_
              rintro e w13 ⟨rfl, hb13⟩
              go_wp2
              go_ret
              exact ⟨rfl, HB0.out.trans (hb13.mono HB0.out.size)⟩
            · obtain ⟨p, hpe, hpN⟩ : ∃ p : Nat, (x : Int) % (N : Int) = p ∧ p < N := ⟨x % N, by rw [Int.natCast_emod], Nat.mod_lt _ h0⟩
              obtain ⟨q, hqe, hqN⟩ : ∃ q : Nat, (y : Int) % (N : Int) = q ∧ q < N := ⟨y % N, by rw [Int.natCast_emod], Nat.mod_lt _ h0⟩
              obtain ⟨qG, cG', hAG, _, _, _, hqG, _, _⟩ := own_pos HG12.out h0
              simp only [Value.slice.injEq, true_and] at hAG
              obtain ⟨rfl, rfl⟩ := hAG
              have hp' : p < L.length := by rw [HLN.out]; exact hpN
              have hq' : q < L.length := by rw [HLN.out]; exact hqN
              have hcp := row_cells HG12.out p L[p] (List.getElem?_eq_getElem hp')
              have hcq := row_cells HG12.out q L[q] (List.getElem?_eq_getElem hq')
              obtain ⟨f, hf, hf1, hf2⟩ := exists_first L (List.getElem_mem hp')
              obtain ⟨t, ht, ht1, ht2⟩ := exists_last L (List.getElem_mem hq')
              have hbt := HSO.out.bet p q f t hp' hq' hf ht hf1 hf2 ht1 ht2
              have kb : ∀ W, AlphO W (some ⟨g, 0, none⟩) (some gs) → ReadS W W.heap.size AT N ls.reverse → Calls Tryz.prog 17 #[.pointer (some ⟨g, 0, none⟩), .slice AT N cT, .string L[p], .string L[q]] W (TextsPost W (0, (L.take (t + 1)).drop f)) := fun W h hr => by
                have := between_any (some ⟨g, 0, none⟩) (some gs) AT N cT ls.reverse L[p] L[q] W h hr hNm
                rw [show betwRes (sortResO (some gs) ls.reverse) (readResO (some gs) L[p]) (readResO (some gs) L[q]) L[p] L[q] = _ from hbt] at this
                exact this
              have ki : ∀ W, (∀ (j : Nat) x, L[j]? = some x → W.cell? ⟨qG, j, none⟩ = some (.string x)) → Calls Tryz.prog 18 #[.slice (some ⟨qG, 0, none⟩) N cG, .string L[p]] W fun e w' => e = .returned (.int .i64 f) ∧ w' = W := fun W hc => by
                have := Tryz.slices_Index_string qG 0 N cG L L[p] W (by rw [HLN.out]; exact Nat.le_refl _) (by omega) (fun j hj => by rw [Nat.zero_add]; exact hc j _ (by rw [List.getElem?_eq_getElem hj, List.getD_eq_getElem?_getD, List.getElem?_eq_getElem hj]; rfl))
                rw [Lib.idxOfS_hit L N f L[p] (by rw [← HLN.out]; exact hf) (by rw [HLN.out]; exact Nat.le_refl _) (by rw [List.getD_eq_getElem?_getD, List.getElem?_eq_getElem hf]; exact hf1) (fun j hj => by rw [List.getD_eq_getElem?_getD, List.getElem?_eq_getElem (by omega)]; exact hf2 j hj)] at this
                exact this
              have kr : ∀ r, t < r → (h : r < L.length) → L[r] ≠ L[q] := fun r h1 h2 => ht2 r h1 h2
              have kt := ht1
              have hfN : f < N := by rw [← HLN.out]; exact hf
              have htN : t < N := by rw [← HLN.out]; exact ht
              have KB := Lib.hid kb; have KI := Lib.hid ki; have KR := Lib.hid kr; have KT := Lib.hid kt
              have hNz : ¬ (N : Int) = 0 := by omega
              have hpI : (p : Int) < (N : Int) := by omega
              have hqI : (q : Int) < (N : Int) := by omega
              clear hbt kb ki kr kt hf1 hf2 ht1 ht2 hf
              go_wp2_with fail
              go_quiet (fail)
              go_wp2_with fail
              have hB13 := below_drewN HB12.out nq
              have HG13 := Lib.hid (own_below HG12.out (below_drewN (Below.refl _ _) nq)); have HT13 := Lib.hid (own_below HT12.out (below_drewN (Below.refl _ _) nq)); have HB13 := Lib.hid hB13
              clear HG12 HT12 HB12 hcp hcq hB13
              generalize w12.drewN nq = w13 at *
              refine (KB.out w13 (HA1.out.below HB13.out) (Reads.of_own HT13.out)).mono ?_
              rintro e w14 hp
              obtain ⟨AB, nB, cB, hret, hrB, hnB, hb14⟩ : ∃ A n c, e = .returned (.tuple #[.slice A n c, .int .i64 0]) ∧ ReadS w14 w14.heap.size A n ((L.take (t + 1)).drop f) ∧ n ≤ maxLen ∧ Below w13.heap.size w13 w14 := hp.reads
              subst hret
              have HG14 := Lib.hid (own_below HG13.out hb14); have HB14 := Lib.hid (Below.go HB13.out (Nat.le_refl _) hb14)
              have hqG14 : qG < w14.heap.size := by have := HG14.out.lt qG rfl; omega
              clear hp hb14 HG13 HT13 HB13 KB
              go_wp2_with fail
              refine (KI.out w14 (row_cells HG14.out)).mono ?_
              rintro e w15 ⟨rfl, rfl⟩
              go_wp2
              have hcut : L.length = N := HLN.out
              go_loopw [30] (fun z W => ∃ r : Nat, t ≤ r ∧ r + 1 ≤ N ∧ z = .int .i64 ((r : Int) + 1) ∧ W = w15) (fun z _ => (intOf z).toNat)
              case atStart => exact ⟨N - 1, by omega, by omega, by congr 1; omega, rfl⟩
              case round =>
                obtain ⟨r, htr, hrN, rfl, rfl⟩ := hrel
                have hrL : r < L.length := by omega
                have hcr := row_cells HG14.out r L[r] (List.getElem?_eq_getElem hrL)
                have hr0 : (0 : Int) < (r : Int) + 1 := by omega
                have hr1 : (r : Int) < (N : Int) := by omega
                have hr2 : (0 : Int) ≤ (r : Int) := by omega
                have hwr : IntKind.i64.wrap (r : Int) = (r : Int) := by rw [IntKind.wrap_i64]; omega
                by_cases hlt : t < r
                · have hne := KR.out r hlt hrL
                  have hneb : (L[r].toList == L[q].toList) = false := by
                    rw [beq_eq_false_iff_ne, Lib.toList_data, Lib.toList_data]
                    exact fun e => hne (bl_inj e)
                  obtain ⟨r', rfl⟩ : ∃ r', r = r' + 1 := ⟨r - 1, by omega⟩
                  go_wp2
                  go_roundw
                  case rel => exact ⟨r', by omega, by omega, by go_num, by trivial⟩
                  case measure => simp [intOf]; omega
                · obtain rfl : t = r := by omega
                  have hkt := KT.out
                  rw [hkt] at hcr
                  obtain ⟨M, hM, hMf, hMt, hMe⟩ : ∃ M : Nat, max (f : Int) ((t : Int) + 1) = M ∧ f ≤ M ∧ M ≤ N ∧ M - f = t + 1 - f := ⟨max f (t + 1), by omega, by omega, by omega, by omega⟩
                  have hMI : (M : Int) ≤ (cG : Int) := by omega
                  have hfM : (f : Int) ≤ (M : Int) := by omega
                  have hfc : ¬ cG = f := by omega
                  have hpart := row_part (t := t + 1) hcut hqG14 (row_cells HG14.out) (by omega) hMe
                  rw [hMe] at hpart
                  have HP := Lib.hid hpart
                  clear hpart hkt
                  go_wp2_with fail
                  refine (equalS_refl AB _ nB (t + 1 - f) cB (cG - f) _ _ _ _ hrB HP.out hnB).mono ?_
                  rintro e w16 ⟨rfl, q6, rfl⟩
                  have HB16 := below_drewN (HB1.out.trans (HB14.out.mono HB1.out.size)) q6
                  go_wp2_with fail
                  refine (KW.out _ HB16).mono ?_
                  rintro e w17 ⟨rfl, hb17⟩
                  go_wp2
                  go_ret
                  exact ⟨rfl, HB16.trans (hb17.mono HB16.size)⟩
  · have kw := works_any w hm
    clear hm hr hs hnc hc hr2 hn2 hc2
    rw [Bool.not_eq_true] at h1
    rw [h1] at hf
    clear h1
    go_enter Tryz.func3, Tryz.ntmps3
    go_wp2_with fail
    refine hf.mono ?_
    rintro e w' ⟨rfl, rfl⟩
    go_wp2_with fail
    refine kw.mono ?_
    rintro e w8 ⟨rfl, hb8⟩
    go_wp2
    go_ret
    exact ⟨rfl, hb8⟩
end Go.Proofs.YtcdpadggjkobjaaGreatDoor
