/-
  PointsWithin: the walk, out of New's contract. Conditions: names of at most maxLen bytes.
-/
import Derived.Test.YtdelkgfodeilkaaDoorPtC
import Derived.Test.YtdelkgfodeilkaaDoorPtJ
import Derived.Test.YtdelkgfodeilkaaDoorPick
import Derived.Deep.QuietTactic
import Derived.BigQuiet
namespace Go.Proofs.YtdelkgfodeilkaaDoor
open Go.RowKit Go.Lib

theorem within_facts {M : Pts} {a : Nat} (ha : a < M.n) (d : Int) : ∃ L : List Int, withinO (some M) a d = L ∧ (∀ j : Nat, j < M.n → decide ((j : Int) ∈ L) = ((distO (some M) a j).2 && decide ((distO (some M) a j).1 ≤ d))) ∧ ∀ (t : Nat) (h : t + 1 < L.length), L[t] < L[t + 1] := by
  have hin : inM M (a : Int) := ⟨by omega, by show (a : Int) < (M.n : Int); omega⟩
  have e : withinO (some M) a d = (withinL M a d).map (fun (x : Nat) => (x : Int)) := by
    show withinS M a d = _
    unfold withinS
    rw [if_pos hin, Int.toNat_natCast]
  refine ⟨_, e, fun j hj => ?_, fun t h => ?_⟩
  · rw [distO_in ha hj, Bool.eq_iff_iff, Bool.and_eq_true, decide_eq_true_iff, decide_eq_true_iff, decide_eq_true_iff, List.mem_map]
    constructor
    · rintro ⟨b, hb, hbj⟩
      have hbj' : b = j := by omega
      subst hbj'
      obtain ⟨_, h1, h2⟩ := withinL_mem.1 hb
      exact ⟨h1, by simp only; omega⟩
    · rintro ⟨h1, h2⟩
      exact ⟨j, withinL_mem.2 ⟨hj, h1, by simp only at h2; omega⟩, rfl⟩
  · have hp : ((withinL M a d).map (fun (x : Nat) => (x : Int))).Pairwise (· < ·) := by
      rw [List.pairwise_map]
      exact (withinL_sorted M a d).imp (fun h => by omega)
    exact List.pairwise_iff_getElem.1 hp t (t + 1) (by omega) h (by omega)
set_option maxRecDepth 40000 in
set_option maxHeartbeats 8000000 in
theorem within_law (hnew : NewAny) (hwk : WorksAny) (A B : Option Addr) (n c m k : Nat) (names : List ByteArray) (roads : List Rd) (x : UInt8) (d : Int) (w : World) (hN : ReadS w w.heap.size A n names) (hR : Reads w w.heap.size 3 B m (roads.flatMap roadV)) (hs : ∀ s ∈ names, s.size ≤ maxLen) :
    Calls Tryd.prog 4 #[.agg #[.slice A n c, .slice B m k], .int .u8 x.toNat, .int .i64 d] w fun e w' => e = .returned (.bool true) ∧ Below w.heap.size w w' := by
  have hnl := hN.len
  have hb0 : Below w.heap.size w (w.alloc (.cells #[.slice A n c, .slice B m k] 25)) := (Below.refl _ w).alloc (by first | exact Nat.le_refl _ | (simp only [World.size_alloc]; omega)) _
  have hc1 := Blk.new w 25 #[.slice A n c, .slice B m k]
  have hn := hnew A B n c m k names roads _ ((Reads.below hN hb0).more hb0.size) ((hR.below hb0).more hb0.size) hs
  have HR0 := Lib.hid hR; have HN0 := Lib.hid hN; have HS0 := Lib.hid hs
  have HB0 := Lib.hid hb0; have HWK := Lib.hid hwk; have HNL := Lib.hid hnl; have HNEW := Lib.hid hnew
  have HC1 := Lib.hid hc1
  clear hb0 hc1 hN hR hs hwk hnl hnew
  go_enter Tryd.func4, Tryd.ntmps4
  go_wp2_with fail
  refine hn.mono ?_
  rintro e w1 ⟨hbad, hgood, hb1⟩
  have hB1 := HB0.out.trans (hb1.mono HB0.out.size)
  have k1 := HC1.out.below hb1 HC1.out.lt
  have hf := few_any A B n c m k w1
  have c10 := k1.cell 0; have c11 := k1.cell 1
  simp only [List.getElem?_toArray, List.getElem?_cons_zero, List.getElem?_cons_succ] at c10 c11
  have HK1 := Lib.hid k1; have HB1 := Lib.hid hB1
  clear hn hb1 k1 hB1 HB0 HC1
  generalize fewB n m = fw at hf
  by_cases hE : newE names roads = 0
  · obtain ⟨g, rfl, hM⟩ := hgood hE
    have hG := good_new hE
    have HE := Lib.hid hE
    generalize hMM : newM names roads = M at hM hG
    have hO : MapO w1 (some ⟨g, 0, none⟩) (some M) := ⟨g, rfl, hM⟩
    have hl := lenP_any _ _ w1 hO
    rw [show lenO (some M) = M.n from rfl] at hl
    have HO := Lib.hid hO; have HG := Lib.hid hG; have HMM := Lib.hid hMM
    have HGO := Lib.hid (show GoodO (some M) from fun M' e => by injection e with e; exact e ▸ hG)
    have hfew : M.n ≤ 128 := hG.few
    clear hbad hgood hM hO hG hE hMM
    cases fw
    · go_wp2_with fail
      refine hf.mono ?_
      rintro e w' ⟨rfl, rfl⟩
      go_wp2_with fail
      refine (HWK.out _).mono ?_
      rintro e w2 ⟨rfl, hb2⟩
      go_wp2
      go_ret
      exact ⟨rfl, HB1.out.trans (hb2.mono HB1.out.size)⟩
    · go_wp2_with fail
      refine hf.mono ?_
      rintro e w' ⟨rfl, rfl⟩
      go_wp2_with fail
      refine hl.mono ?_
      rintro e w' ⟨rfl, rfl⟩
      by_cases h0 : M.n = 0
      · have h0I : (M.n : Int) = 0 := by omega
        go_wp2_with fail
        refine (HWK.out _).mono ?_
        rintro e w2 ⟨rfl, hb2⟩
        go_wp2
        go_ret
        exact ⟨rfl, HB1.out.trans (hb2.mono HB1.out.size)⟩
      · have h0I : ¬ (M.n : Int) = 0 := by omega
        obtain ⟨a, ha, ea⟩ := mod_pick x h0
        go_wp2_with fail
        refine hl.mono ?_
        rintro e w' ⟨rfl, rfl⟩
        obtain ⟨L, eL, hmemL, hsL⟩ := within_facts ha d
        have q1 := withinP_any _ _ a d w1 HO.out HGO.out
        rw [eL] at q1
        have HMEM := Lib.hid hmemL; have HSL := Lib.hid hsL
        clear hmemL hsL eL
        go_wp2_with fail
        refine q1.mono ?_
        rintro e w2 ⟨v2, rfl, ho2, hb2⟩
        obtain ⟨A2, c2, rfl, hca, hcb⟩ := ownsRow_form ho2
        have hL : ReadI w2 w2.heap.size A2 L.length L := Reads.of_own ho2
        have hLm : L.length ≤ maxLen := Nat.le_trans hca hcb
        have HO2 := Lib.hid (HO.out.below hb2); have HB2 := Lib.hid (HB1.out.trans (hb2.mono HB1.out.size)); have HL := Lib.hid hL; have HLM := Lib.hid hLm
        obtain ⟨len, hlen⟩ : ∃ len, L.length = len := ⟨_, rfl⟩
        rw [hlen]
        have hlm : len ≤ 9223372036854775807 := by unfold maxLen at hLm; omega
        have HLEN := Lib.hid hlen
        clear q1 ho2 hb2 hca hcb hL hLm hlen hl
        go_wp2_with fail
        go_loopw [11] (fun b wr => ∃ j : Nat, j ≤ M.n ∧ b = .int .i64 j ∧ Below w2.heap.size w2 wr) (fun b _ => M.n - (intOf b).toNat)
        case atStart => exact ⟨0, by omega, rfl, Below.refl _ _⟩
        case round =>
          obtain ⟨j, hj, rfl, hbr⟩ := hrel
          have hOr := HO2.out.below hbr
          have hlr := lenP_any _ _ wr hOr
          rw [show lenO (some M) = M.n from rfl] at hlr
          have HOR := Lib.hid hOr; have HBR := Lib.hid hbr
          clear hOr hbr
          by_cases hlt : j < M.n
          · have hm := HMEM.out j hlt
            have qd := distP_any _ _ a j wr HOR.out HGO.out
            obtain ⟨p, ok, ep⟩ : ∃ p ok, distO (some M) a j = (p, ok) := ⟨_, _, rfl⟩
            rw [ep] at qd hm
            simp only at hm
            have hjI : (j : Int) < (M.n : Int) := by omega
            have hmem2 : ∀ W, Below wr.heap.size wr W → Calls Tryd.prog 20 #[.slice A2 len c2, .int .i64 (j : Int)] W fun e w' => e = .returned (.bool (ok && decide (p ≤ d))) ∧ W = w' := fun W hW => by
              have := hasL_any A2 len c2 j L W (by rw [← HLEN.out]; exact (Reads.below HL.out (HBR.out.trans (hW.mono HBR.out.size))).more (HBR.out.trans (hW.mono HBR.out.size)).size) (by rw [← HLEN.out]; exact HLM.out)
              rwa [hm] at this
            have HM2 := Lib.hid hmem2
            clear hm ep hmem2
            go_wp2_with fail
            refine hlr.mono ?_
            rintro e w' ⟨rfl, rfl⟩
            go_wp2_with fail
            refine qd.mono ?_
            rintro e w3 ⟨rfl, hb3⟩
            have qh := HM2.out w3 hb3
            have HB3 := Lib.hid (HBR.out.trans (hb3.mono HBR.out.size))
            clear hb3 qd HM2
            cases ok
            · rw [Bool.false_and] at qh
              go_wp2_with fail
              refine qh.mono ?_
              rintro e w' ⟨rfl, rfl⟩
              go_wp2
              go_roundw
              case rel => exact ⟨j + 1, by omega, by go_num, HB3.out⟩
              case measure => simp [intOf]; omega
            · by_cases hpd : p ≤ d
              · rw [Bool.true_and, decide_eq_true hpd] at qh
                go_wp2_with fail
                refine qh.mono ?_
                rintro e w' ⟨rfl, rfl⟩
                go_wp2
                go_roundw
                case rel => exact ⟨j + 1, by omega, by go_num, HB3.out⟩
                case measure => simp [intOf]; omega
              · rw [Bool.true_and, decide_eq_false hpd] at qh
                go_wp2_with fail
                refine qh.mono ?_
                rintro e w' ⟨rfl, rfl⟩
                go_wp2
                go_roundw
                case rel => exact ⟨j + 1, by omega, by go_num, HB3.out⟩
                case measure => simp [intOf]; omega
          · obtain rfl : j = M.n := by omega
            go_wp2_with fail
            refine hlr.mono ?_
            rintro e w' ⟨rfl, rfl⟩
            clear hlr HMEM
            go_wp2_with fail
            go_loopw [14] (fun i wr => ∃ t : Nat, (t ≤ len ∧ (t = 0 ∨ t + 1 ≤ len)) ∧ i = .int .i64 ((t : Int) + 1) ∧ Below w2.heap.size w2 wr) (fun i _ => len + 1 - (intOf i).toNat)
            case atStart => exact ⟨0, ⟨by omega, .inl rfl⟩, rfl, HBR.out⟩
            case round =>
              obtain ⟨t, ht, rfl, hbt⟩ := hrel
              by_cases hlt2 : t + 1 < len
              · have hsl := HSL.out t (by rw [HLEN.out]; exact hlt2)
                have hrd : ReadI wr w2.heap.size A2 len L := by rw [← HLEN.out]; exact Reads.below HL.out hbt
                obtain ⟨ad, rfl, had, hcx⟩ := ReadI.at_ (k := t) hrd (by rw [HLEN.out]; omega)
                obtain ⟨ad', had', _, hcy⟩ := ReadI.at_ (k := t + 1) hrd (by rw [HLEN.out]; omega)
                obtain rfl : ad = ad' := Option.some.inj had'
                obtain ⟨x1, hx1⟩ : ∃ x1, L[t]'(by rw [HLEN.out]; omega) = x1 := ⟨_, rfl⟩
                obtain ⟨y1, hy1⟩ : ∃ y1, L[t + 1]'(by rw [HLEN.out]; omega) = y1 := ⟨_, rfl⟩
                rw [hx1] at hcx hsl
                rw [hy1] at hcy hsl
                have hnle : ¬ y1 ≤ x1 := by omega
                clear hx1 hy1
                have htI : (t : Int) + 1 < (len : Int) := by omega
                have htI2 : (t : Int) < (len : Int) := by omega
                have hwt : IntKind.i64.wrap (t : Int) = (t : Int) := by rw [IntKind.wrap_i64]; omega
                rw [show ad.add (t + 1) = ⟨ad.block, ad.off + (t + 1), none⟩ from by unfold Addr.add; simp] at hcy
                have ht0 : (0 : Int) ≤ (t : Int) + 1 := by omega
                have htn : ((t : Int) + 1).toNat = t + 1 := by omega
                have HBT := Lib.hid hbt
                clear hbt hrd hsl had'
                go_wp2_with fail
                go_quiet (fail)
                go_wp2
                go_roundw
                case rel => exact ⟨t + 1, by omega, by go_num, HBT.out.trans (below_drewN _ _ _)⟩
                case measure => simp [intOf]; omega
              · have htI : ¬ (t : Int) + 1 < (len : Int) := by omega
                have HBT := Lib.hid (HB2.out.trans (hbt.mono HB2.out.size))
                clear hbt
                go_wp2_with fail
                refine (HWK.out _).mono ?_
                rintro e w8 ⟨rfl, hb8⟩
                go_wp2
                go_ret
                exact ⟨rfl, HBT.out.trans (hb8.mono HBT.out.size)⟩
  · obtain rfl := hbad hE
    have hEI : ¬ (newE names roads = 0) := hE
    generalize newE names roads = E at hEI
    clear hbad hgood hE
    cases fw
    · go_wp2_with fail
      refine hf.mono ?_
      rintro e w' ⟨rfl, rfl⟩
      go_wp2_with fail
      refine (HWK.out _).mono ?_
      rintro e w2 ⟨rfl, hb2⟩
      go_wp2
      go_ret
      exact ⟨rfl, HB1.out.trans (hb2.mono HB1.out.size)⟩
    · go_wp2_with fail
      refine hf.mono ?_
      rintro e w' ⟨rfl, rfl⟩
      go_wp2_with fail
      refine (HWK.out _).mono ?_
      rintro e w2 ⟨rfl, hb2⟩
      go_wp2
      go_ret
      exact ⟨rfl, HB1.out.trans (hb2.mono HB1.out.size)⟩
end Go.Proofs.YtdelkgfodeilkaaDoor
