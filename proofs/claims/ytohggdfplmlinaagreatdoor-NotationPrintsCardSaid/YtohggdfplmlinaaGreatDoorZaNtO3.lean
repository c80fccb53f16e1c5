/-
  layer 1 at the second seat: the reference's Change. Conditions: values of 32 bits.
-/
import Derived.Test.YtohggdfplmlinaaGreatDoorZaan
import Derived.Deep.RegionWith
namespace Go.Proofs.YtohggdfplmlinaaGreatDoor
open Go.RowKit Go.Lib

theorem rchg_ret {Q : Ending → World → Prop} {a : Act} {W : World} {b x y : Nat} (v : Value) (hd : a.defers = []) (ha : a.tmps[6]? = some (.pointer (some ⟨b, 0, none⟩))) (hv : a.tmps[7]? = some v) (h0 : ∃ u, W.cell? ⟨b, 0, none⟩ = some u) (h1 : ∃ u, W.cell? ⟨b, 1, none⟩ = some u)
    (h : Q (.returned (.tuple #[sndV (x, y), v])) ((W.setCell ⟨b, 0, none⟩ (.int .u32 x)).setCell ⟨b, 1, none⟩ (.int .u32 y))) : bodyPost Tryz.prog Tryz.f76 Q .ret a ((W.setCell ⟨b, 0, none⟩ (.int .u32 x)).setCell ⟨b, 1, none⟩ (.int .u32 y)) := by
  obtain ⟨u0, h0⟩ := h0
  obtain ⟨u1, h1⟩ := h1
  have e1 : ((W.setCell ⟨b, 0, none⟩ (.int .u32 x)).setCell ⟨b, 1, none⟩ (.int .u32 y)).cell? ⟨b, 0, none⟩ = some (.int .u32 x) := by
    rw [World.cell?_setCell_other _ _ _ _ (by simp)]
    exact World.cell?_setCell_same _ _ _ h0
  have e2 : ((W.setCell ⟨b, 0, none⟩ (.int .u32 x)).setCell ⟨b, 1, none⟩ (.int .u32 y)).cell? ⟨b, 1, none⟩ = some (.int .u32 y) := by
    obtain ⟨v', hv'⟩ := cell?_setCell_some (x := .int .u32 x) (p := ⟨b, 0, none⟩) h1
    exact World.cell?_setCell_same _ _ _ hv'
  generalize (W.setCell ⟨b, 0, none⟩ (.int .u32 x)).setCell ⟨b, 1, none⟩ (.int .u32 y) = W2 at *
  exact bodyPost_ret (v := .tuple #[sndV (x, y), v]) (by simp [results, Tryz.results76, go_sem, ha, hv, e1, e2]) hd h
/-- The blocks of Change: the sound, the set, the result. -/
structure ChgB (w W : World) (x s : Snd) : Prop where
  below : Below w.heap.size w W
  k0 : Blk W w.heap.size 30 #[.int .u32 x.1, .int .u32 x.2]
  k1 : Blk W (w.heap.size + 1) 30 #[.int .u32 s.1, .int .u32 s.2]
  k2 : Blk W (w.heap.size + 1 + 1) 30 #[.int .u32 0, .int .u32 0]
theorem ChgB.next {w W W' : World} {x s : Snd} (h : ChgB w W x s) (hb : Below (w.heap.size + 3) W W') : ChgB w W' x s :=
  ⟨h.below.trans (hb.mono (by omega)), h.k0.below hb (by omega), h.k1.below hb (by omega), h.k2.below hb (by omega)⟩
theorem ChgB.size {w W : World} {x s : Snd} (h : ChgB w W x s) : w.heap.size + 3 ≤ W.heap.size := by have := h.k2.lt; omega
theorem ChgB.cells {w W : World} {x s : Snd} (h : ChgB w W x s) : (W.cell? ⟨w.heap.size, 0, none⟩ = some (.int .u32 x.1) ∧ W.cell? ⟨w.heap.size, 1, none⟩ = some (.int .u32 x.2)) ∧ (W.cell? ⟨w.heap.size + 1, 0, none⟩ = some (.int .u32 s.1) ∧ W.cell? ⟨w.heap.size + 1, 1, none⟩ = some (.int .u32 s.2)) ∧ (W.cell? ⟨w.heap.size + 1 + 1, 0, none⟩ = some (.int .u32 0) ∧ W.cell? ⟨w.heap.size + 1 + 1, 1, none⟩ = some (.int .u32 0)) ∧ (W.frozen? ⟨w.heap.size + 1 + 1, 0, none⟩ = false ∧ W.frozen? ⟨w.heap.size + 1 + 1, 1, none⟩ = false) :=
  ⟨⟨h.k0.cell 0, h.k0.cell 1⟩, ⟨h.k1.cell 0, h.k1.cell 1⟩, ⟨h.k2.cell 0, h.k2.cell 1⟩, ⟨h.k2.frozen 0, h.k2.frozen 1⟩⟩
theorem chgB_new (w : World) (x s : Snd) {W : World} (h : ((w.alloc (.cells #[.int .u32 x.1, .int .u32 x.2] 30)).alloc (.cells #[.int .u32 s.1, .int .u32 s.2] 30)).alloc (.cells #[.int .u32 0, .int .u32 0] 30) = W) : ChgB w W x s := by
  subst h
  have k1 := Blk.new (w.alloc (.cells #[.int .u32 x.1, .int .u32 x.2] 30)) 30 #[.int .u32 s.1, .int .u32 s.2]
  have k2 := Blk.new ((w.alloc (.cells #[.int .u32 x.1, .int .u32 x.2] 30)).alloc (.cells #[.int .u32 s.1, .int .u32 s.2] 30)) 30 #[.int .u32 0, .int .u32 0]
  simp only [World.size_alloc] at k1 k2
  exact ⟨(((Below.refl w.heap.size w).alloc (Nat.le_refl _) _).alloc (by simp) _).alloc (by simp; omega) _, ((Blk.new w _ _).alloc _).alloc _, k1.alloc _, k2⟩
theorem ChgB.drew {w W : World} {x s : Snd} (h : ChgB w W x s) : ChgB w W.drew x s := ⟨h.below.drew, h.k0, h.k1, h.k2⟩
theorem ChgB.set {w W : World} {x s : Snd} (h : ChgB w W x s) {p : Addr} (hp : w.heap.size + 3 ≤ p.block) (u : Value) : ChgB w (W.setCell p u) x s :=
  ⟨h.below.setCell (by omega) u, h.k0.far (by omega) u, h.k1.far (by omega) u, h.k2.far (by omega) u⟩
def RChgPost (w : World) (R : Snd) (e : Ending) (w' : World) : Prop := (∃ v : Int, e = .returned (.tuple #[sndV R, .int .i64 v])) ∧ Below w.heap.size w w'
theorem rchg_zero {w W : World} {x s : Snd} (h : ChgB w W x s) (v : Int) (p q : Nat) : RChgPost w (p, q) (.returned (.tuple #[sndV (p, q), .int .i64 v])) ((W.setCell ⟨w.heap.size + 1 + 1, 0, none⟩ (.int .u32 p)).setCell ⟨w.heap.size + 1 + 1, 1, none⟩ (.int .u32 q)) :=
  ⟨⟨v, rfl⟩, (h.below.setCell (by show w.heap.size ≤ w.heap.size + 1 + 1; omega) _).setCell (by show w.heap.size ≤ w.heap.size + 1 + 1; omega) _⟩
set_option linter.unusedSimpArgs false in
set_option maxRecDepth 20000 in
set_option maxHeartbeats 2000000 in
theorem rchange_any (x s : Snd) (c : Nat) (w : World) (hx : ok32 x) (hs : ok32 s) (hc : is32 c) : Calls Tryz.prog 76 #[sndV x, .int .u32 c, sndV s] w (RChgPost w (chgS x c s)) := by
  obtain ⟨R, hR⟩ : ∃ R, chgS x c s = R := ⟨_, rfl⟩
  have hv1 := fun W => rvalid1_any x W hx
  have hv2 := fun W => rvalid1_any s W hs
  have hc' : c < 4294967296 := hc
  have e0 := u32_or_nat s.1 s.2 hs.1 hs.2
  have e1 := u32_and_nat c (s.1 ||| s.2) hc' (or32 hs.1 hs.2)
  have hRE : R = if validS x = true ∧ validS s = true ∧ c ≤ 16777215 ∧ c &&& hasB s = 0 then mixS x s (c ||| hasB s) else (0, 0) := hR.symm
  have hmx := fun (h24 : c ≤ 16777215) (h0 : c &&& hasB s = 0) (hv : validS s = true) => chgK_mix hx h24 h0 hv
  have hbit := fun f => bit_int c f hc'
  have hget := fun (hv : validS s = true) (f : Nat) (hf : f < 24) W => get_any s f W hf hs hv
  have hput := fun (o : Snd) (ho : ok32 o) (f : Nat) (hf : f < 24) (v : Int) (hv : v = 0 ∨ v = 1 ∨ v = -1) W => put_any o f v W hf ho hv
  have hok := fun (k : Nat) (hk : k ≤ 24) => chgK_ok (c := c) (s := s) hx hk
  rw [hR]
  have hhb : hasB s = s.1 ||| s.2 := rfl
  rw [hhb] at hRE hmx
  have HV1 := Lib.hid hv1; have HV2 := Lib.hid hv2; have HMX := Lib.hid hmx; have HBIT := Lib.hid hbit; have HGET := Lib.hid hget; have HPUT := Lib.hid hput; have HOK := Lib.hid hok; have HX := Lib.hid hx
  clear hhb hR hv1 hv2 hmx hbit hget hput hok hx hs hc
  have HRE := Lib.hid hRE
  clear hRE
  obtain ⟨W0, hW0⟩ : ∃ W, ((w.alloc (.cells #[.int .u32 x.1, .int .u32 x.2] 30)).alloc (.cells #[.int .u32 s.1, .int .u32 s.2] 30)).alloc (.cells #[.int .u32 0, .int .u32 0] 30) = W := ⟨_, rfl⟩
  have hB0 := chgB_new w x s hW0
  obtain ⟨x1, x2⟩ := x
  obtain ⟨s1, s2⟩ := s
  simp only [] at e0 e1 hW0
  have HB0 := Lib.hid hB0; have HW := Lib.hid hW0
  clear hB0 hW0
  go_enter Tryz.func76, Tryz.ntmps76
  go_wp2_with fail
  rw [HW.out]
  clear HW
  refine (HV1.out _).mono ?_
  rintro e w1 ⟨rfl, hb1⟩
  have hB1 := HB0.out.next (hb1.mono HB0.out.size)
  obtain ⟨⟨x0, x1'⟩, ⟨s0, s1'⟩, ⟨r0, r1⟩, ⟨fr0, fr1⟩⟩ := hB1.cells
  have HB1 := Lib.hid hB1
  clear hb1 hB1 HB0 HV1
  have hsz1 := HB1.out.size
  cases hv1 : validS (x1, x2) with
  | false =>
    obtain rfl : R = (0, 0) := HRE.out.trans (if_neg (fun h => by rw [hv1] at h; cases h.1))
    clear HRE hv1
    go_wp2
    exact rchg_ret (.int .i64 14) rfl rfl rfl ⟨_, r0⟩ ⟨_, r1⟩ (rchg_zero HB1.out 14 0 0)
  | true =>
    go_wp2_with fail
    refine (HV2.out _).mono ?_
    rintro e w2 ⟨rfl, hb2⟩
    clear x0 x1' s0 s1' r0 r1 fr0 fr1
    have hB2 := HB1.out.next (hb2.mono HB1.out.size)
    obtain ⟨⟨x0, x1'⟩, ⟨s0, s1'⟩, ⟨r0, r1⟩, ⟨fr0, fr1⟩⟩ := hB2.cells
    have HB2 := Lib.hid hB2
    clear hb2 hB2 HB1 HV2
    have hsz2 := HB2.out.size
    cases hv2 : validS (s1, s2) with
    | false =>
      obtain rfl : R = (0, 0) := HRE.out.trans (if_neg (fun h => by rw [hv2] at h; cases h.2.1))
      clear HRE hv2 hv1
      go_wp2
      exact rchg_ret (.int .i64 14) rfl rfl rfl ⟨_, r0⟩ ⟨_, r1⟩ (rchg_zero HB2.out 14 0 0)
    | true =>
      by_cases hcl : c ≤ 16777215
      case neg =>
        have hclI : (16777215 : Int) < (c : Int) := by omega
        obtain rfl : R = (0, 0) := HRE.out.trans (if_neg (fun h => hcl h.2.2.1))
        clear HRE hv2 hv1 hcl
        go_wp2
        exact rchg_ret (.int .i64 2) rfl rfl rfl ⟨_, r0⟩ ⟨_, r1⟩ (rchg_zero HB2.out 2 0 0)
      have hclI : ¬ (16777215 : Int) < (c : Int) := by omega
      by_cases hq : c &&& (s1 ||| s2) = 0
      case neg =>
        obtain rfl : R = (0, 0) := HRE.out.trans (if_neg (fun h => hq h.2.2.2))
        generalize c &&& (s1 ||| s2) = q at *
        generalize s1 ||| s2 = o at *
        have hqI : ((q : Int) != 0) = true := by rw [bne_iff_ne]; omega
        clear HRE hv2 hv1 hcl
        go_wp2
        exact rchg_ret (.int .i64 2) rfl rfl rfl ⟨_, r0⟩ ⟨_, r1⟩ (rchg_zero HB2.out 2 0 0)
      have hRm : R = chgK (x1, x2) c (s1, s2) 24 := (HRE.out.trans (if_pos ⟨hv1, hv2, hcl, hq⟩)).trans (HMX.out hcl hq hv2).symm
      have HRM := Lib.hid hRm; have HG := Lib.hid (HGET.out hv2)
      clear hRm HRE HMX HGET hv1 hv2 hcl
      rw [hq] at e1
      clear hq
      generalize s1 ||| s2 = o at *
      go_wp2
      clear e0 e1 x0 x1' r0 r1 fr0 fr1
      have hqn := Blk.new w2 30 #[.int .u32 x1, .int .u32 x2]
      have hcn := HB2.out.next ((Below.refl (w.heap.size + 3) w2).alloc hsz2 (.cells #[.int .u32 x1, .int .u32 x2] 30))
      generalize w2.alloc (.cells #[.int .u32 x1, .int .u32 x2] 30) = w3 at *
      have HQN := Lib.hid hqn; have HCN := Lib.hid hcn
      have hbb : w.heap.size + 3 ≤ w2.heap.size := hsz2
      clear hqn hcn s0 s1' HB2 hsz2
      generalize w2.heap.size = b at *
      have hf1 : b ≠ w.heap.size + 1 := by omega
      have hf2 : w.heap.size + 1 ≠ b := by omega
      go_loopw [9] (fun i wr => ∃ k : Nat, k ≤ 24 ∧ i = .int .i64 k ∧ Blk wr b 30 #[.int .u32 (chgK (x1, x2) c (s1, s2) k).1, .int .u32 (chgK (x1, x2) c (s1, s2) k).2] ∧ ChgB w wr (x1, x2) (s1, s2)) (fun i _ => 24 - (RowKit.intOf i).toNat)
      case atStart => exact ⟨0, by omega, rfl, HQN.out, HCN.out⟩
      case round =>
        obtain ⟨k, hk, rfl, hq, hc⟩ := hrel
        have HC := Lib.hid hc
        have hszr := hc.size
        clear hc
        by_cases hlt : k < 24
        · have hkI : (k : Int) < 24 := by omega
          have hk0 : (0 : Int) ≤ (k : Int) := by omega
          have hbt := HBIT.out k
          have ho := HOK.out k (by omega)
          have hnx : chgK (x1, x2) c (s1, s2) (k + 1) = stepC c (s1, s2) (chgK (x1, x2) c (s1, s2) k) k := chgK_next
          have hgc := getF_cases (s1, s2) k
          generalize chgK (x1, x2) c (s1, s2) k = o' at *
          unfold stepC at hnx
          cases hcb : c.testBit k with
          | false =>
            rw [hcb] at hbt hnx
            simp only [Bool.false_eq_true, if_false] at hbt hnx
            have HST0 := Lib.hid (fun h => hnx.trans (if_pos h)); have HST := Lib.hid (fun h => hnx.trans (if_neg h))
            have HO1 := Lib.hid ho; have HQ1 := Lib.hid hq; have HC1 := HC
            clear hcb hnx ho hq
            obtain ⟨-, ⟨s0, s1'⟩, -, -⟩ := HC1.out.cells
            go_wp2_with fail
            clear s0 s1'
            refine (HG.out k hlt _).mono ?_
            rintro e w4 ⟨rfl, hb4⟩
            have hc4 := HC1.out.next (hb4.mono HC1.out.size)
            have hq4 := HQ1.out.below hb4 HQ1.out.lt
            have HC4 := Lib.hid hc4; have HQ4 := Lib.hid hq4
            clear hb4 hc4 hq4
            rcases hgc with hg0 | hg1
            · rw [hg0]
              have hst := HST0.out hg0
              have HS := Lib.hid hst
              clear HST HST0 hg0 hst HO1
              go_wp2
              go_roundw
              case rel => exact ⟨k + 1, by omega, by go_num, by rw [HS.out]; exact HQ4.out, HC4.out⟩
              case measure => simp [RowKit.intOf]; omega
            · have hgI : (getF (s1, s2) k == (0 : Int)) = false := by rw [beq_eq_false_iff_ne]; rcases hg1 with h | h <;> rw [h] <;> decide
              have hst := HST.out (by rcases hg1 with h | h <;> rw [h] <;> decide)
              have HGK := Lib.hid (HG.out k hlt)
              have hpk := HPUT.out _ HO1.out k hlt _ (.inr hg1)
              clear HST HST0 hg1
              generalize getF (s1, s2) k = v at *
              generalize putS o' k v = pr at *
              obtain ⟨pr1, pr2⟩ := pr
              have HS := Lib.hid hst; have HPK := Lib.hid hpk
              clear hst hpk
              go_wp2
              obtain ⟨-, ⟨s0, s1'⟩, -, -⟩ := HC4.out.cells
              have q0 := HQ4.out.cell 0
              have q1 := HQ4.out.cell 1
              simp only [List.getElem?_toArray, List.getElem?_cons_zero, List.getElem?_cons_succ] at q0 q1
              go_region_with (first | (go_at_call 88; refine (HGK.out _).mono ?_; rintro e w5 ⟨rfl, hb5⟩; have hq5 := (show Blk w4.drew b 30 #[.int .u32 o'.1, .int .u32 o'.2] from HQ4.out).below hb5 HQ4.out.lt; have hc5 := HC4.out.drew.next (hb5.mono HC4.out.size); have u0 := hq5.cell 0; have u1 := hq5.cell 1; simp only [List.getElem?_toArray, List.getElem?_cons_zero, List.getElem?_cons_succ] at u0 u1; have HC5 := Lib.hid hc5; have HQ5 := Lib.hid hq5; clear hb5 hq5 hc5) | (go_at_call 97; refine (HPK.out _).mono ?_; rintro e w6 ⟨rfl, hb6⟩; have hq6 := HQ5.out.below hb6 HQ5.out.lt; have hc6 := HC5.out.next (hb6.mono HC5.out.size); have z0 := hq6.cell 0; have z1 := hq6.cell 1; have fz0 := hq6.frozen 0; have fz1 := hq6.frozen 1; simp only [List.getElem?_toArray, List.getElem?_cons_zero, List.getElem?_cons_succ] at z0 z1; have HC6 := Lib.hid hc6; have HQ6 := Lib.hid hq6; clear hb6 hq6 hc6))
              all_goals
                go_wp2
                go_roundw
                case rel => exact ⟨k + 1, by omega, by go_num, by rw [HS.out]; exact (HQ6.out.set_ 0 (.int .u32 pr1)).set_ 1 (.int .u32 pr2), (HC6.out.set hbb _).set hbb _⟩
                case measure => simp [RowKit.intOf]; omega
          | true =>
            rw [hcb] at hbt hnx
            simp only [if_true] at hbt hnx
            have hp0 := HPUT.out _ ho k hlt 0 (.inl rfl)
            have hok1 := putS_ok (v := 0) ho hlt
            have HP0 := Lib.hid hp0
            generalize putS o' k 0 = o2 at *
            obtain ⟨o21, o22⟩ := o2
            have HST0 := Lib.hid (fun h => hnx.trans (if_pos h)); have HST := Lib.hid (fun h => hnx.trans (if_neg h))
            have HO1 := Lib.hid hok1; have HQ := Lib.hid hq
            have q0 := hq.cell 0
            have q1 := hq.cell 1
            simp only [List.getElem?_toArray, List.getElem?_cons_zero, List.getElem?_cons_succ] at q0 q1
            clear hcb hnx ho hq hp0 hok1
            go_wp2_with fail
            refine (HP0.out _).mono ?_
            rintro e w7 ⟨rfl, hb7⟩
            have hq7 := HQ.out.below hb7 HQ.out.lt
            have hc7 := HC.out.next (hb7.mono hszr)
            clear q0 q1
            have q0 := hq7.cell 0
            have q1 := hq7.cell 1
            have fq0 := hq7.frozen 0
            have fq1 := hq7.frozen 1
            simp only [List.getElem?_toArray, List.getElem?_cons_zero, List.getElem?_cons_succ] at q0 q1
            obtain ⟨-, ⟨s0, s1'⟩, -, -⟩ := hc7.cells
            have HQ1 := Lib.hid (show Blk ((w7.setCell ⟨b, 0, none⟩ (.int .u32 o21)).setCell ⟨b, 1, none⟩ (.int .u32 o22)) b 30 #[.int .u32 o21, .int .u32 o22] from (hq7.set_ 0 (.int .u32 o21)).set_ 1 (.int .u32 o22))
            have HC1 := Lib.hid ((hc7.set (p := ⟨b, 0, none⟩) hbb (.int .u32 o21)).set (p := ⟨b, 1, none⟩) hbb (.int .u32 o22))
            clear hb7 hq7 hc7 HQ HC HP0
            go_wp2_with fail
            clear s0 s1' q0 q1 fq0 fq1
            generalize (w7.setCell ⟨b, 0, none⟩ (.int .u32 o21)).setCell ⟨b, 1, none⟩ (.int .u32 o22) = wq at *
            refine (HG.out k hlt _).mono ?_
            rintro e w4 ⟨rfl, hb4⟩
            have hc4 := HC1.out.next (hb4.mono HC1.out.size)
            have hq4 := HQ1.out.below hb4 HQ1.out.lt
            have HC4 := Lib.hid hc4; have HQ4 := Lib.hid hq4
            clear hb4 hc4 hq4
            rcases hgc with hg0 | hg1
            · rw [hg0]
              have hst := HST0.out hg0
              have HS := Lib.hid hst
              clear HST HST0 hg0 hst HO1
              go_wp2
              go_roundw
              case rel => exact ⟨k + 1, by omega, by go_num, by rw [HS.out]; exact HQ4.out, HC4.out⟩
              case measure => simp [RowKit.intOf]; omega
            · have hgI : (getF (s1, s2) k == (0 : Int)) = false := by rw [beq_eq_false_iff_ne]; rcases hg1 with h | h <;> rw [h] <;> decide
              have hst := HST.out (by rcases hg1 with h | h <;> rw [h] <;> decide)
              have HGK := Lib.hid (HG.out k hlt)
              have hpk := HPUT.out _ HO1.out k hlt _ (.inr hg1)
              clear HST HST0 hg1
              generalize getF (s1, s2) k = v at *
              generalize putS (o21, o22) k v = pr at *
              obtain ⟨pr1, pr2⟩ := pr
              have HS := Lib.hid hst; have HPK := Lib.hid hpk
              clear hst hpk
              go_wp2
              obtain ⟨-, ⟨s0, s1'⟩, -, -⟩ := HC4.out.cells
              have q0 := HQ4.out.cell 0
              have q1 := HQ4.out.cell 1
              simp only [List.getElem?_toArray, List.getElem?_cons_zero, List.getElem?_cons_succ] at q0 q1
              go_region_with (first | (go_at_call 88; refine (HGK.out _).mono ?_; rintro e w5 ⟨rfl, hb5⟩; have hq5 := (show Blk w4.drew b 30 #[.int .u32 o21, .int .u32 o22] from HQ4.out).below hb5 HQ4.out.lt; have hc5 := HC4.out.drew.next (hb5.mono HC4.out.size); have u0 := hq5.cell 0; have u1 := hq5.cell 1; simp only [List.getElem?_toArray, List.getElem?_cons_zero, List.getElem?_cons_succ] at u0 u1; have HC5 := Lib.hid hc5; have HQ5 := Lib.hid hq5; clear hb5 hq5 hc5) | (go_at_call 97; refine (HPK.out _).mono ?_; rintro e w6 ⟨rfl, hb6⟩; have hq6 := HQ5.out.below hb6 HQ5.out.lt; have hc6 := HC5.out.next (hb6.mono HC5.out.size); have z0 := hq6.cell 0; have z1 := hq6.cell 1; have fz0 := hq6.frozen 0; have fz1 := hq6.frozen 1; simp only [List.getElem?_toArray, List.getElem?_cons_zero, List.getElem?_cons_succ] at z0 z1; have HC6 := Lib.hid hc6; have HQ6 := Lib.hid hq6; clear hb6 hq6 hc6))
              all_goals
                go_wp2
                go_roundw
                case rel => exact ⟨k + 1, by omega, by go_num, by rw [HS.out]; exact (HQ6.out.set_ 0 (.int .u32 pr1)).set_ 1 (.int .u32 pr2), (HC6.out.set hbb _).set hbb _⟩
                case measure => simp [RowKit.intOf]; omega
        · obtain rfl : k = 24 := by omega
          rw [← HRM.out] at hq
          have q0 := hq.cell 0
          have q1 := hq.cell 1
          obtain ⟨-, -, ⟨r0, r1⟩, ⟨fr0, fr1⟩⟩ := HC.out.cells
          simp only [List.getElem?_toArray, List.getElem?_cons_zero, List.getElem?_cons_succ] at q0 q1
          clear hq
          obtain ⟨R1, R2⟩ := R
          go_wp2
          exact rchg_ret (.int .i64 0) rfl rfl rfl ⟨_, r0⟩ ⟨_, r1⟩ (rchg_zero HC.out 0 R1 R2)
end Go.Proofs.YtohggdfplmlinaaGreatDoor
