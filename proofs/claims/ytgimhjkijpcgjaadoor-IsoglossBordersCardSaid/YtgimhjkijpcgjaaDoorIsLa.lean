/-
  IsoglossOne: the walk, out of what both News hand back. Conditions: names of at most maxLen bytes, values of 64 bits. (Printed by law37a.py.)
-/
import Derived.Test.YtgimhjkijpcgjaaDoorGaw
import Derived.Test.YtgimhjkijpcgjaaDoorIsW
namespace Go.Proofs.YtgimhjkijpcgjaaDoor
open Go.RowKit Go.Lib

theorem cmp_form (om : Option Pts) (vs : List Int) : ∃ x y : Int, cmpA om vs = .agg #[.int .i64 x, .int .i64 y] := by
  unfold cmpA
  split
  · split
    · exact ⟨_, _, rfl⟩
    · exact ⟨_, _, rfl⟩
  · exact ⟨_, _, rfl⟩
def Works37 : Prop := ∀ w : World, Calls Tryd.prog 12 #[] w fun e w' => e = .returned (.bool true) ∧ Below w.heap.size w w'
/-- What IsoglossOne reads: both maps, the values, and their copy. -/
structure EnvO (w W : World) (p q : Option Addr) (om : Option Pts) (A A' : Option Addr) (n : Nat) (vs : List Int) : Prop where
  map : MapO W p om
  ref : RefO W q om
  rv : ReadI W W.heap.size A n vs
  ri : ReadI W W.heap.size A' n vs
  below : Below w.heap.size w W
theorem EnvO.later {w W W' : World} {p q : Option Addr} {om : Option Pts} {A A' : Option Addr} {n : Nat} {vs : List Int} (h : EnvO w W p q om A A' n vs) (hb : Below W.heap.size W W') : EnvO w W' p q om A A' n vs :=
  ⟨h.map.below hb, h.ref.below hb, ReadI.later h.rv hb, ReadI.later h.ri hb, h.below.trans (hb.mono h.below.size)⟩
set_option maxRecDepth 40000 in
set_option maxHeartbeats 8000000 in
theorem one_law (hnew : NewAny) (href : RefAny) (hwk : Works37) (A B D : Option Addr) (n c m k i j : Nat) (names : List ByteArray) (roads : List Rd) (vs : List Int) (w : World) (hN : ReadS w w.heap.size A n names) (hR : Reads w w.heap.size 3 B m (roads.flatMap roadV)) (hs : ∀ s ∈ names, s.size ≤ maxLen)
    (hV : ReadI w w.heap.size D i vs) (hvok : ∀ v ∈ vs, okI v) (hij : i ≤ j) (hjm : j ≤ maxLen) :
    Calls Tryd.prog 3 #[.agg #[.slice A n c, .slice B m k], .slice D i j] w fun e w' => e = .returned (.bool true) ∧ Below w.heap.size w w' := by
  obtain ⟨i0, hi, hz0, hz1, hz2⟩ := info_parts (show (Tryd.prog.info? 3).map (fun i => (i.zero, i.size, i.bytes)) = some (some (.int .i64 0), 1, 8) by kernel_rfl)
  have hb0 := (Below.refl w.heap.size w).alloc (Nat.le_refl _) (.cells #[.slice A n c, .slice B m k] 25)
  have hn := maps_any hnew href A B n c m k names roads _ ((Reads.below hN hb0).more hb0.size) ((hR.below hb0).more hb0.size) hs
  have HG := Lib.hid (newO_new names roads)
  generalize hom : newO names roads = om at HG
  unfold MapsPost at hn
  rw [hom] at hn
  have HB0 := Lib.hid hb0; have HN := Lib.hid hn; have HV := Lib.hid hV; have HVO := Lib.hid hvok; have HWK := Lib.hid hwk
  clear hb0 hn hN hR hs hnew href hV hvok hwk hom
  go_enter Tryd.func3, Tryd.ntmps3
  go_wp2_with fail
  refine HN.out.mono ?_
  rintro e w1 ⟨p, q, ok, rfl, hM, hb1⟩
  have HM := Lib.hid hM; have HB1 := Lib.hid (HB0.out.trans (hb1.mono HB0.out.size))
  clear hM hb1 HN HB0
  cases ok
  · go_wp2_with fail
    refine (HWK.out _).mono ?_
    rintro e w2 ⟨rfl, hb2⟩
    go_wp2
    go_ret
    exact ⟨rfl, HB1.out.trans (hb2.mono HB1.out.size)⟩
  · obtain ⟨hM, hQ⟩ := HM.out rfl
    have HMM := Lib.hid hM; have HQQ := Lib.hid hQ
    clear hM hQ HM
    by_cases h40 : (40 : Int) < (i : Int)
    · go_wp2_with fail
      refine (HWK.out _).mono ?_
      rintro e w2 ⟨rfl, hb2⟩
      go_wp2
      go_ret
      exact ⟨rfl, HB1.out.trans (hb2.mono HB1.out.size)⟩
    · have hal := (Below.refl w1.heap.size w1).alloc (Nat.le_refl _) (.cells #[] 3)
      have HAL := Lib.hid hal
      have HV1 := Lib.hid (Reads.below HV.out (HB1.out.trans (hal.mono HB1.out.size)))
      clear hal
      go_wp2_with (at_builtin; refine wpList_append_any _ rfl _ _ 26 rfl w1.heap.size 3 i0 (.int .i64 0) 1 8 Tryd.underlying26 hi hz0 hz1 hz2 rfl (by decide) _ _ _ rfl (own_empty1 w1 _) _ _ _ _ (vs.map (Value.int .i64)) rfl HV1.out (by simp [Value.oneCell']) (by unfold maxLen; omega) (by omega) (by simp) ?_; intro v' w2 hown' hgrow hx; clear hx)
      have hb2 : Below w1.heap.size w1 w2 := HAL.out.grown hgrow (by simp) (fun g hg => ((own_empty1 w1 3).lt g hg).1)
      rw [Nat.zero_add] at hown'
      obtain ⟨A', c', rfl, hic, hcm⟩ := ownsRow_form hown'
      have E := Lib.hid (EnvO.mk (HMM.out.below hb2) (HQQ.out.below hb2) (ReadI.later HV.out (HB1.out.trans (hb2.mono HB1.out.size))) (Reads.of_own hown') (HB1.out.trans (hb2.mono HB1.out.size)) : EnvO w w2 p q om D A' i vs)
      clear hown' hgrow hb2 HAL HV1 HB1 HMM HQQ HV
      obtain ⟨er, her⟩ : ∃ er, chkN (lenO om) [vs] = er := ⟨_, rfl⟩
      obtain ⟨x0, hx0⟩ : ∃ x, cutsV om vs = x := ⟨_, rfl⟩
      obtain ⟨x1, hx1⟩ : ∃ x, regV om vs = x := ⟨_, rfl⟩
      obtain ⟨x2, hx2⟩ : ∃ x, islV om vs = x := ⟨_, rfl⟩
      obtain ⟨fx, fy, hf⟩ := cmp_form om vs
      have HER := Lib.hid her; have HX0 := Lib.hid hx0; have HX1 := Lib.hid hx1; have HX2 := Lib.hid hx2; have HF := Lib.hid hf
      clear her hx0 hx1 hx2 hf
      have q0 := cutsP_any p om A' i c' vs _ E.out.map HG.out E.out.ri hic hcm
      unfold GivesE at q0
      rw [HX0.out, HER.out] at q0
      go_wp2_with fail
      refine q0.mono ?_
      rintro e w3 ⟨v, rfl, ho, hb⟩
      obtain ⟨A0, c0, rfl, hn0, hm0⟩ := ownsRow_form ho
      have E' := Lib.hid (E.out.later hb)
      clear E  
      have E := E'; clear E'
      have R0 := Lib.hid (Reads.of_own ho)
      clear q0 ho hb
      have q0 := refCuts_any q om D i j vs _ E.out.ref HG.out E.out.rv hij hjm
      unfold GivesE at q0
      rw [HX0.out, HER.out] at q0
      go_wp2_with fail
      refine q0.mono ?_
      rintro e w4 ⟨v, rfl, ho, hb⟩
      obtain ⟨A1, c1, rfl, hn1, hm1⟩ := ownsRow_form ho
      have E' := Lib.hid (E.out.later hb)
      have R0' := Lib.hid (ReadI.later R0.out hb)
      clear E R0 
      have E := E'; clear E'
      have R0 := R0'; clear R0'
      have R1 := Lib.hid (Reads.of_own ho)
      clear q0 ho hb
      have q0 := regionsP_any p om A' i c' vs _ E.out.map HG.out E.out.ri hic hcm
      unfold GivesE at q0
      rw [HX1.out, HER.out] at q0
      go_wp2_with fail
      refine q0.mono ?_
      rintro e w5 ⟨v, rfl, ho, hb⟩
      obtain ⟨A2, c2, rfl, hn2, hm2⟩ := ownsRow_form ho
      have E' := Lib.hid (E.out.later hb)
      have R0' := Lib.hid (ReadI.later R0.out hb)
      have R1' := Lib.hid (ReadI.later R1.out hb)
      clear E R0 R1 
      have E := E'; clear E'
      have R0 := R0'; clear R0'
      have R1 := R1'; clear R1'
      have R2 := Lib.hid (Reads.of_own ho)
      clear q0 ho hb
      have q0 := refRegions_any q om D i j vs _ E.out.ref HG.out E.out.rv hij hjm
      unfold GivesE at q0
      rw [HX1.out, HER.out] at q0
      go_wp2_with fail
      refine q0.mono ?_
      rintro e w6 ⟨v, rfl, ho, hb⟩
      obtain ⟨A3, c3, rfl, hn3, hm3⟩ := ownsRow_form ho
      have E' := Lib.hid (E.out.later hb)
      have R0' := Lib.hid (ReadI.later R0.out hb)
      have R1' := Lib.hid (ReadI.later R1.out hb)
      have R2' := Lib.hid (ReadI.later R2.out hb)
      clear E R0 R1 R2 
      have E := E'; clear E'
      have R0 := R0'; clear R0'
      have R1 := R1'; clear R1'
      have R2 := R2'; clear R2'
      have R3 := Lib.hid (Reads.of_own ho)
      clear q0 ho hb
      have q0 := islandsP_any p om A' i c' vs _ E.out.map HG.out E.out.ri hic hcm HVO.out
      unfold GivesE at q0
      rw [HX2.out, HER.out] at q0
      go_wp2_with fail
      refine q0.mono ?_
      rintro e w7 ⟨v, rfl, ho, hb⟩
      obtain ⟨A4, c4, rfl, hn4, hm4⟩ := ownsRow_form ho
      have E' := Lib.hid (E.out.later hb)
      have R0' := Lib.hid (ReadI.later R0.out hb)
      have R1' := Lib.hid (ReadI.later R1.out hb)
      have R2' := Lib.hid (ReadI.later R2.out hb)
      have R3' := Lib.hid (ReadI.later R3.out hb)
      clear E R0 R1 R2 R3 
      have E := E'; clear E'
      have R0 := R0'; clear R0'
      have R1 := R1'; clear R1'
      have R2 := R2'; clear R2'
      have R3 := R3'; clear R3'
      have R4 := Lib.hid (Reads.of_own ho)
      clear q0 ho hb
      have q0 := refIslands_any q om D i j vs _ E.out.ref HG.out E.out.rv hij hjm
      unfold GivesE at q0
      rw [HX2.out, HER.out] at q0
      go_wp2_with fail
      refine q0.mono ?_
      rintro e w8 ⟨v, rfl, ho, hb⟩
      obtain ⟨A5, c5, rfl, hn5, hm5⟩ := ownsRow_form ho
      have E' := Lib.hid (E.out.later hb)
      have R0' := Lib.hid (ReadI.later R0.out hb)
      have R1' := Lib.hid (ReadI.later R1.out hb)
      have R2' := Lib.hid (ReadI.later R2.out hb)
      have R3' := Lib.hid (ReadI.later R3.out hb)
      have R4' := Lib.hid (ReadI.later R4.out hb)
      clear E R0 R1 R2 R3 R4 
      have E := E'; clear E'
      have R0 := R0'; clear R0'
      have R1 := R1'; clear R1'
      have R2 := R2'; clear R2'
      have R3 := R3'; clear R3'
      have R4 := R4'; clear R4'
      have R5 := Lib.hid (Reads.of_own ho)
      clear q0 ho hb
      have q0 := compactP_any p om A' i c' vs _ E.out.map HG.out E.out.ri hic hcm
      unfold FracE at q0
      rw [HF.out, show cmpE om vs = er from HER.out] at q0
      go_wp2_with fail
      refine q0.mono ?_
      rintro e w9 ⟨rfl, hb⟩
      have E' := Lib.hid (E.out.later hb)
      have R0' := Lib.hid (ReadI.later R0.out hb)
      have R1' := Lib.hid (ReadI.later R1.out hb)
      have R2' := Lib.hid (ReadI.later R2.out hb)
      have R3' := Lib.hid (ReadI.later R3.out hb)
      have R4' := Lib.hid (ReadI.later R4.out hb)
      have R5' := Lib.hid (ReadI.later R5.out hb)
      clear E R0 R1 R2 R3 R4 R5 
      have E := E'; clear E'
      have R0 := R0'; clear R0'
      have R1 := R1'; clear R1'
      have R2 := R2'; clear R2'
      have R3 := R3'; clear R3'
      have R4 := R4'; clear R4'
      have R5 := R5'; clear R5'
      have hal := (Below.refl w9.heap.size w9).alloc (Nat.le_refl _) (.cells #[.int .i64 fx, .int .i64 fy] 37)
      have F6n := Blk.new w9 37 #[.int .i64 fx, .int .i64 fy]
      clear q0 hb
      have E' := Lib.hid (E.out.later hal)
      have R0' := Lib.hid (ReadI.later R0.out hal)
      have R1' := Lib.hid (ReadI.later R1.out hal)
      have R2' := Lib.hid (ReadI.later R2.out hal)
      have R3' := Lib.hid (ReadI.later R3.out hal)
      have R4' := Lib.hid (ReadI.later R4.out hal)
      have R5' := Lib.hid (ReadI.later R5.out hal)
      clear E R0 R1 R2 R3 R4 R5 
      have E := E'; clear E'
      have R0 := R0'; clear R0'
      have R1 := R1'; clear R1'
      have R2 := R2'; clear R2'
      have R3 := R3'; clear R3'
      have R4 := R4'; clear R4'
      have R5 := R5'; clear R5'
      have F6 := Lib.hid F6n
      clear F6n hal
      have q0 := refCompact_any q om D i j vs _ E.out.ref HG.out E.out.rv hij hjm
      unfold FracE at q0
      rw [HF.out, show cmpE om vs = er from HER.out] at q0
      go_wp2_with fail
      refine q0.mono ?_
      rintro e w10 ⟨rfl, hb⟩
      have E' := Lib.hid (E.out.later hb)
      have R0' := Lib.hid (ReadI.later R0.out hb)
      have R1' := Lib.hid (ReadI.later R1.out hb)
      have R2' := Lib.hid (ReadI.later R2.out hb)
      have R3' := Lib.hid (ReadI.later R3.out hb)
      have R4' := Lib.hid (ReadI.later R4.out hb)
      have R5' := Lib.hid (ReadI.later R5.out hb)
      have F6' := Lib.hid (Blk.below F6.out hb F6.out.lt)
      clear E R0 R1 R2 R3 R4 R5 F6
      have E := E'; clear E'
      have R0 := R0'; clear R0'
      have R1 := R1'; clear R1'
      have R2 := R2'; clear R2'
      have R3 := R3'; clear R3'
      have R4 := R4'; clear R4'
      have R5 := R5'; clear R5'
      have F6 := F6'; clear F6'
      have hal := (Below.refl w10.heap.size w10).alloc (Nat.le_refl _) (.cells #[.int .i64 fx, .int .i64 fy] 37)
      have F7n := Blk.new w10 37 #[.int .i64 fx, .int .i64 fy]
      clear q0 hb
      have E' := Lib.hid (E.out.later hal)
      have R0' := Lib.hid (ReadI.later R0.out hal)
      have R1' := Lib.hid (ReadI.later R1.out hal)
      have R2' := Lib.hid (ReadI.later R2.out hal)
      have R3' := Lib.hid (ReadI.later R3.out hal)
      have R4' := Lib.hid (ReadI.later R4.out hal)
      have R5' := Lib.hid (ReadI.later R5.out hal)
      have F6' := Lib.hid (Blk.below F6.out hal F6.out.lt)
      clear E R0 R1 R2 R3 R4 R5 F6
      have E := E'; clear E'
      have R0 := R0'; clear R0'
      have R1 := R1'; clear R1'
      have R2 := R2'; clear R2'
      have R3 := R3'; clear R3'
      have R4 := R4'; clear R4'
      have R5 := R5'; clear R5'
      have F6 := F6'; clear F6'
      have F7 := Lib.hid F7n
      clear F7n hal
      have q0 := equalI_any A0 A1 x0.length c0 x0.length c1 x0 x0 _ R0.out R1.out (Nat.le_trans hn0 hm0)
      rw [show decide (x0 = x0) = true from decide_eq_true rfl] at q0
      go_wp2_with fail
      refine q0.mono ?_
      rintro e w11 ⟨rfl, hb⟩
      have E' := Lib.hid (E.out.later hb)
      have R0' := Lib.hid (ReadI.later R0.out hb)
      have R1' := Lib.hid (ReadI.later R1.out hb)
      have R2' := Lib.hid (ReadI.later R2.out hb)
      have R3' := Lib.hid (ReadI.later R3.out hb)
      have R4' := Lib.hid (ReadI.later R4.out hb)
      have R5' := Lib.hid (ReadI.later R5.out hb)
      have F6' := Lib.hid (Blk.below F6.out hb F6.out.lt)
      have F7' := Lib.hid (Blk.below F7.out hb F7.out.lt)
      clear E R0 R1 R2 R3 R4 R5 F6 F7
      have E := E'; clear E'
      have R0 := R0'; clear R0'
      have R1 := R1'; clear R1'
      have R2 := R2'; clear R2'
      have R3 := R3'; clear R3'
      have R4 := R4'; clear R4'
      have R5 := R5'; clear R5'
      have F6 := F6'; clear F6'
      have F7 := F7'; clear F7'
      clear q0 hb
      have q0 := equalI_any A2 A3 x1.length c2 x1.length c3 x1 x1 _ R2.out R3.out (Nat.le_trans hn2 hm2)
      rw [show decide (x1 = x1) = true from decide_eq_true rfl] at q0
      go_wp2_with fail
      refine q0.mono ?_
      rintro e w12 ⟨rfl, hb⟩
      have E' := Lib.hid (E.out.later hb)
      have R0' := Lib.hid (ReadI.later R0.out hb)
      have R1' := Lib.hid (ReadI.later R1.out hb)
      have R2' := Lib.hid (ReadI.later R2.out hb)
      have R3' := Lib.hid (ReadI.later R3.out hb)
      have R4' := Lib.hid (ReadI.later R4.out hb)
      have R5' := Lib.hid (ReadI.later R5.out hb)
      have F6' := Lib.hid (Blk.below F6.out hb F6.out.lt)
      have F7' := Lib.hid (Blk.below F7.out hb F7.out.lt)
      clear E R0 R1 R2 R3 R4 R5 F6 F7
      have E := E'; clear E'
      have R0 := R0'; clear R0'
      have R1 := R1'; clear R1'
      have R2 := R2'; clear R2'
      have R3 := R3'; clear R3'
      have R4 := R4'; clear R4'
      have R5 := R5'; clear R5'
      have F6 := F6'; clear F6'
      have F7 := F7'; clear F7'
      clear q0 hb
      have q0 := equalI_any A4 A5 x2.length c4 x2.length c5 x2 x2 _ R4.out R5.out (Nat.le_trans hn4 hm4)
      rw [show decide (x2 = x2) = true from decide_eq_true rfl] at q0
      go_wp2_with fail
      refine q0.mono ?_
      rintro e w13 ⟨rfl, hb⟩
      have E' := Lib.hid (E.out.later hb)
      have R0' := Lib.hid (ReadI.later R0.out hb)
      have R1' := Lib.hid (ReadI.later R1.out hb)
      have R2' := Lib.hid (ReadI.later R2.out hb)
      have R3' := Lib.hid (ReadI.later R3.out hb)
      have R4' := Lib.hid (ReadI.later R4.out hb)
      have R5' := Lib.hid (ReadI.later R5.out hb)
      have F6' := Lib.hid (Blk.below F6.out hb F6.out.lt)
      have F7' := Lib.hid (Blk.below F7.out hb F7.out.lt)
      clear E R0 R1 R2 R3 R4 R5 F6 F7
      have E := E'; clear E'
      have R0 := R0'; clear R0'
      have R1 := R1'; clear R1'
      have R2 := R2'; clear R2'
      have R3 := R3'; clear R3'
      have R4 := R4'; clear R4'
      have R5 := R5'; clear R5'
      have F6 := F6'; clear F6'
      have F7 := F7'; clear F7'
      clear q0 hb
      have f0 := F6.out.cell 0; have f1 := F6.out.cell 1; have g0 := F7.out.cell 0; have g1 := F7.out.cell 1
      simp only [List.getElem?_toArray, List.getElem?_cons_zero, List.getElem?_cons_succ] at f0 f1 g0 g1
      have q0 := equalI_any A' D i c' i j vs vs _ E.out.ri E.out.rv (Nat.le_trans hij hjm)
      rw [show decide (vs = vs) = true from decide_eq_true rfl] at q0
      go_wp2_with fail
      refine q0.mono ?_
      rintro e w14 ⟨rfl, hb⟩
      have E' := Lib.hid (E.out.later hb)
      have R0' := Lib.hid (ReadI.later R0.out hb)
      have R1' := Lib.hid (ReadI.later R1.out hb)
      have R2' := Lib.hid (ReadI.later R2.out hb)
      have R3' := Lib.hid (ReadI.later R3.out hb)
      have R4' := Lib.hid (ReadI.later R4.out hb)
      have R5' := Lib.hid (ReadI.later R5.out hb)
      have F6' := Lib.hid (Blk.below F6.out hb F6.out.lt)
      have F7' := Lib.hid (Blk.below F7.out hb F7.out.lt)
      clear E R0 R1 R2 R3 R4 R5 F6 F7
      have E := E'; clear E'
      have R0 := R0'; clear R0'
      have R1 := R1'; clear R1'
      have R2 := R2'; clear R2'
      have R3 := R3'; clear R3'
      have R4 := R4'; clear R4'
      have R5 := R5'; clear R5'
      have F6 := F6'; clear F6'
      have F7 := F7'; clear F7'
      clear q0 hb
      clear f0 f1 g0 g1
      go_wp2_with fail
      refine (HWK.out _).mono ?_
      rintro e w15 ⟨rfl, hb⟩
      have HBE := Lib.hid (E.out.below.trans (hb.mono E.out.below.size))
      clear hb
      go_wp2
      go_ret
      exact ⟨rfl, HBE.out⟩
end Go.Proofs.YtgimhjkijpcgjaaDoor
