/-
  IsoglossMany: the walk, out of what both News hand back. Conditions: names of at most maxLen bytes. (Printed by law37b.py.)
-/
import Derived.Test.YtgimhjkijpcgjaaDoorIsCp
namespace Go.Proofs.YtgimhjkijpcgjaaDoor
open Go.RowKit Go.Lib

theorem dif_form (l : List (List Int)) (a b : Int) : ∃ x y : Int, difA l a b = .agg #[.int .i64 x, .int .i64 y] := by
  unfold difA
  split
  · exact ⟨_, _, rfl⟩
  · exact ⟨_, _, rfl⟩
/-- What IsoglossMany reads: both maps, the lists, their copies, the two numbers. -/
structure EnvM (w W : World) (p q : Option Addr) (om : Option Pts) (A A' : Option Addr) (m : Nat) (l : List (List Int)) (g7 : Nat) (a b : Int) : Prop where
  map : MapO W p om
  ref : RefO W q om
  rv : ReadII W W.heap.size A m l
  ri : ReadII W W.heap.size A' m l
  two : Blk W g7 44 #[.int .i64 a, .int .i64 b]
  below : Below w.heap.size w W
theorem EnvM.later {w W W' : World} {p q : Option Addr} {om : Option Pts} {A A' : Option Addr} {m : Nat} {l : List (List Int)} {g7 : Nat} {a b : Int} (h : EnvM w W p q om A A' m l g7 a b) (hb : Below W.heap.size W W') : EnvM w W' p q om A A' m l g7 a b :=
  ⟨h.map.below hb, h.ref.below hb, h.rv.later hb, h.ri.later hb, h.two.below hb h.two.lt, h.below.trans (hb.mono h.below.size)⟩
set_option maxRecDepth 40000 in
set_option maxHeartbeats 8000000 in
theorem many_law (hnew : NewAny) (href : RefAny) (hwk : Works37) (A B D : Option Addr) (n c m k i j : Nat) (names : List ByteArray) (roads : List Rd) (l : List (List Int)) (least a b : Int) (w : World) (hN : ReadS w w.heap.size A n names) (hR : Reads w w.heap.size 3 B m (roads.flatMap roadV)) (hs : ∀ s ∈ names, s.size ≤ maxLen)
    (hV : ReadII w w.heap.size D i l) (hij : i ≤ j) (hjm : j ≤ maxLen) :
    Calls Tryd.prog 4 #[.agg #[.slice A n c, .slice B m k], .slice D i j, .int .i64 least, .agg #[.int .i64 a, .int .i64 b]] w fun e w' => e = .returned (.bool true) ∧ Below w.heap.size w w' := by
  have hb0 := ((Below.refl w.heap.size w).alloc (Nat.le_refl _) (.cells #[.slice A n c, .slice B m k] 25)).alloc (by simp) (.cells #[.int .i64 a, .int .i64 b] 44)
  have hn := maps_any hnew href A B n c m k names roads _ ((Reads.below hN hb0).more hb0.size) ((hR.below hb0).more hb0.size) hs
  have h7 := Blk.new (w.alloc (.cells #[.slice A n c, .slice B m k] 25)) 44 #[.int .i64 a, .int .i64 b]
  have h4 := (Blk.new w 25 #[.slice A n c, .slice B m k]).alloc (.cells #[.int .i64 a, .int .i64 b] 44)
  have hil := Nat.le_trans hij hjm
  have HLI := Lib.hid hV.1
  simp only [World.size_alloc] at h7 h4
  have c40 := h4.cell 0; have c41 := h4.cell 1
  simp only [List.getElem?_toArray, List.getElem?_cons_zero, List.getElem?_cons_succ] at c40 c41
  have HG := Lib.hid (newO_new names roads)
  generalize hom : newO names roads = om at HG
  unfold MapsPost at hn
  rw [hom] at hn
  have HB0 := Lib.hid hb0; have HN := Lib.hid hn; have HV := Lib.hid hV; have HWK := Lib.hid hwk; have H7 := Lib.hid h7
  clear hb0 hn hN hR hs hnew href hV hwk hom h7 h4
  go_enter Tryd.func4, Tryd.ntmps4
  go_wp2_with fail
  refine HN.out.mono ?_
  rintro e w1 ⟨p, q, ok, rfl, hM, hb1⟩
  have HM := Lib.hid hM; have HB1 := Lib.hid (HB0.out.trans (hb1.mono HB0.out.size))
  have H71 := Lib.hid (H7.out.below hb1 H7.out.lt)
  clear hM hb1 HN HB0 c40 c41 H7
  cases ok
  · go_wp2_with fail
    refine (HWK.out _).mono ?_
    rintro e w2 ⟨rfl, hb2⟩
    go_wp2
    go_ret
    exact ⟨rfl, HB1.out.trans (hb2.mono HB1.out.size)⟩
  · obtain ⟨hM, hQ⟩ := HM.out rfl
    have HMM := Lib.hid hM; have HQQ := Lib.hid hQ
    have HLT := Lib.hid (light37_any D i j l w1 (HV.out.later HB1.out) hil)
    clear hM hQ HM
    go_wp2_with fail
    refine HLT.out.mono ?_
    rintro e w2 ⟨lt, rfl, hlt, hb2⟩
    have HLI2 := Lib.hid hlt; have HB2 := Lib.hid hb2
    clear hlt hb2 HLT
    cases lt
    · go_wp2_with fail
      refine (HWK.out _).mono ?_
      rintro e w3 ⟨rfl, hb3⟩
      go_wp2
      go_ret
      exact ⟨rfl, (HB1.out.trans (HB2.out.mono HB1.out.size)).trans (hb3.mono (HB1.out.trans (HB2.out.mono HB1.out.size)).size)⟩
    · have HB12 := Lib.hid (HB1.out.trans (HB2.out.mono HB1.out.size))
      have HCP := Lib.hid (copied37_any D i j l w2 (HV.out.later HB12.out) (HLI2.out rfl).1 (HLI2.out rfl).2)
      have HI300 := Lib.hid (HLI2.out rfl).1
      clear HLI2
      go_wp2_with fail
      refine HCP.out.mono ?_
      rintro e w3 ⟨A', c', rfl, hri, hpa, hic, hcm, hb3⟩
      have hb23 := HB2.out.trans (hb3.mono HB2.out.size)
      have hb13 := HB12.out.trans (hb3.mono HB12.out.size)
      have E := Lib.hid (EnvM.mk (HMM.out.below hb23) (HQQ.out.below hb23) (HV.out.later hb13) hri (H71.out.below hb23 H71.out.lt) hb13 : EnvM w w3 p q om D A' i l (w.heap.size + 1) a b)
      have HPA := Lib.hid hpa
      clear hri hpa hb3 hb23 hb13 HCP HB12 HB2 HB1 HMM HQQ HV H71
      obtain ⟨er, her⟩ : ∃ er, chkN (lenO om) l = er := ⟨_, rfl⟩
      obtain ⟨x0, hx0⟩ : ∃ x, bunV om l = x := ⟨_, rfl⟩
      obtain ⟨x1, hx1⟩ : ∃ x, borV om l least = x := ⟨_, rfl⟩
      obtain ⟨av, hav⟩ : ∃ x, alkV (lenO om) l a = x := ⟨_, rfl⟩
      obtain ⟨ae, hae⟩ : ∃ x, alkE (lenO om) l a = x := ⟨_, rfl⟩
      obtain ⟨de, hde⟩ : ∃ x, difE l a b = x := ⟨_, rfl⟩
      obtain ⟨fx, fy, hf⟩ := dif_form l a b
      have HER := Lib.hid her; have HX0 := Lib.hid hx0; have HX1 := Lib.hid hx1; have HAV := Lib.hid hav; have HAE := Lib.hid hae; have HDE := Lib.hid hde; have HF := Lib.hid hf
      clear her hx0 hx1 hav hae hde hf
      have q0 := bundlesP_any p om A' i c' l _ E.out.map HG.out E.out.ri HPA.out (Nat.le_trans hic hcm)
      unfold GivesE at q0
      rw [HX0.out, HER.out] at q0
      go_wp2_with fail
      refine q0.mono ?_
      rintro e w4 ⟨v, rfl, ho, hb⟩
      obtain ⟨A0, c0, rfl, hn0, hm0⟩ := ownsRow_form ho
      have E' := Lib.hid (E.out.later hb)
      clear E  
      have E := E'; clear E'
      have R0 := Lib.hid (Reads.of_own ho)
      clear q0 ho hb
      have q0 := refBundles_any q om D i j l _ E.out.ref HG.out E.out.rv hil
      unfold GivesE at q0
      rw [HX0.out, HER.out] at q0
      go_wp2_with fail
      refine q0.mono ?_
      rintro e w5 ⟨v, rfl, ho, hb⟩
      obtain ⟨A1, c1, rfl, hn1, hm1⟩ := ownsRow_form ho
      have E' := Lib.hid (E.out.later hb)
      have R0' := Lib.hid (ReadI.later R0.out hb)
      clear E R0 
      have E := E'; clear E'
      have R0 := R0'; clear R0'
      have R1 := Lib.hid (Reads.of_own ho)
      clear q0 ho hb
      have q0 := bordersP_any p om A' i c' l least _ E.out.map HG.out E.out.ri HPA.out (Nat.le_trans hic hcm)
      unfold GivesE at q0
      rw [HX1.out, HER.out] at q0
      go_wp2_with fail
      refine q0.mono ?_
      rintro e w6 ⟨v, rfl, ho, hb⟩
      obtain ⟨A2, c2, rfl, hn2, hm2⟩ := ownsRow_form ho
      have E' := Lib.hid (E.out.later hb)
      have R0' := Lib.hid (ReadI.later R0.out hb)
      have R1' := Lib.hid (ReadI.later R1.out hb)
      clear E R0 R1 
      have E := E'; clear E'
      have R0 := R0'; clear R0'
      have R1 := R1'; clear R1'
      have R2 := Lib.hid (Reads.of_own ho)
      clear q0 ho hb
      have q0 := refBorders_any q om D i j l least _ E.out.ref HG.out E.out.rv hil
      unfold GivesE at q0
      rw [HX1.out, HER.out] at q0
      go_wp2_with fail
      refine q0.mono ?_
      rintro e w7 ⟨v, rfl, ho, hb⟩
      obtain ⟨A3, c3, rfl, hn3, hm3⟩ := ownsRow_form ho
      have E' := Lib.hid (E.out.later hb)
      have R0' := Lib.hid (ReadI.later R0.out hb)
      have R1' := Lib.hid (ReadI.later R1.out hb)
      have R2' := Lib.hid (ReadI.later R2.out hb)
      clear E R0 R1 R2 
      have E := E'; clear E'
      have R0 := R0'; clear R0'
      have R1 := R1'; clear R1'
      have R2 := R2'; clear R2'
      have R3 := Lib.hid (Reads.of_own ho)
      clear q0 ho hb
      have q0 := alikeP_any p om A' i c' l a _ E.out.map HG.out E.out.ri HPA.out (Nat.le_trans hic hcm)
      unfold IntE at q0
      rw [HAV.out, HAE.out] at q0
      have t0 := E.out.two.cell 0; have t1 := E.out.two.cell 1
      simp only [List.getElem?_toArray, List.getElem?_cons_zero, List.getElem?_cons_succ] at t0 t1
      go_wp2_with fail
      refine q0.mono ?_
      rintro e w8 ⟨rfl, hb⟩
      have E' := Lib.hid (E.out.later hb)
      have R0' := Lib.hid (ReadI.later R0.out hb)
      have R1' := Lib.hid (ReadI.later R1.out hb)
      have R2' := Lib.hid (ReadI.later R2.out hb)
      have R3' := Lib.hid (ReadI.later R3.out hb)
      clear E R0 R1 R2 R3 
      have E := E'; clear E'
      have R0 := R0'; clear R0'
      have R1 := R1'; clear R1'
      have R2 := R2'; clear R2'
      have R3 := R3'; clear R3'
      clear q0 hb t0 t1
      have q0 := refAlike_any q om D i j l a _ E.out.ref HG.out E.out.rv hil
      unfold IntE at q0
      rw [HAV.out, HAE.out] at q0
      have t0 := E.out.two.cell 0; have t1 := E.out.two.cell 1
      simp only [List.getElem?_toArray, List.getElem?_cons_zero, List.getElem?_cons_succ] at t0 t1
      go_wp2_with fail
      refine q0.mono ?_
      rintro e w9 ⟨rfl, hb⟩
      have E' := Lib.hid (E.out.later hb)
      have R0' := Lib.hid (ReadI.later R0.out hb)
      have R1' := Lib.hid (ReadI.later R1.out hb)
      have R2' := Lib.hid (ReadI.later R2.out hb)
      have R3' := Lib.hid (ReadI.later R3.out hb)
      clear E R0 R1 R2 R3 
      have E := E'; clear E'
      have R0 := R0'; clear R0'
      have R1 := R1'; clear R1'
      have R2 := R2'; clear R2'
      have R3 := R3'; clear R3'
      clear q0 hb t0 t1
      have q0 := differFP_any A' i c' l a b _ E.out.ri
      unfold FracE at q0
      rw [HF.out, HDE.out] at q0
      have t0 := E.out.two.cell 0; have t1 := E.out.two.cell 1
      simp only [List.getElem?_toArray, List.getElem?_cons_zero, List.getElem?_cons_succ] at t0 t1
      go_wp2_with fail
      refine q0.mono ?_
      rintro e w10 ⟨rfl, hb⟩
      have E' := Lib.hid (E.out.later hb)
      have R0' := Lib.hid (ReadI.later R0.out hb)
      have R1' := Lib.hid (ReadI.later R1.out hb)
      have R2' := Lib.hid (ReadI.later R2.out hb)
      have R3' := Lib.hid (ReadI.later R3.out hb)
      clear E R0 R1 R2 R3 
      have E := E'; clear E'
      have R0 := R0'; clear R0'
      have R1 := R1'; clear R1'
      have R2 := R2'; clear R2'
      have R3 := R3'; clear R3'
      have hal := (Below.refl w10.heap.size w10).alloc (Nat.le_refl _) (.cells #[.int .i64 fx, .int .i64 fy] 37)
      have F6n := Blk.new w10 37 #[.int .i64 fx, .int .i64 fy]
      clear q0 hb t0 t1
      have E' := Lib.hid (E.out.later hal)
      have R0' := Lib.hid (ReadI.later R0.out hal)
      have R1' := Lib.hid (ReadI.later R1.out hal)
      have R2' := Lib.hid (ReadI.later R2.out hal)
      have R3' := Lib.hid (ReadI.later R3.out hal)
      clear E R0 R1 R2 R3 
      have E := E'; clear E'
      have R0 := R0'; clear R0'
      have R1 := R1'; clear R1'
      have R2 := R2'; clear R2'
      have R3 := R3'; clear R3'
      have F6 := Lib.hid F6n
      clear F6n hal
      have q0 := refDifferF_any D i j l a b _ E.out.rv
      unfold FracE at q0
      rw [HF.out, HDE.out] at q0
      have t0 := E.out.two.cell 0; have t1 := E.out.two.cell 1
      simp only [List.getElem?_toArray, List.getElem?_cons_zero, List.getElem?_cons_succ] at t0 t1
      go_wp2_with fail
      refine q0.mono ?_
      rintro e w11 ⟨rfl, hb⟩
      have E' := Lib.hid (E.out.later hb)
      have R0' := Lib.hid (ReadI.later R0.out hb)
      have R1' := Lib.hid (ReadI.later R1.out hb)
      have R2' := Lib.hid (ReadI.later R2.out hb)
      have R3' := Lib.hid (ReadI.later R3.out hb)
      have F6' := Lib.hid (Blk.below F6.out hb F6.out.lt)
      clear E R0 R1 R2 R3 F6
      have E := E'; clear E'
      have R0 := R0'; clear R0'
      have R1 := R1'; clear R1'
      have R2 := R2'; clear R2'
      have R3 := R3'; clear R3'
      have F6 := F6'; clear F6'
      have hal := (Below.refl w11.heap.size w11).alloc (Nat.le_refl _) (.cells #[.int .i64 fx, .int .i64 fy] 37)
      have F7n := Blk.new w11 37 #[.int .i64 fx, .int .i64 fy]
      clear q0 hb t0 t1
      have E' := Lib.hid (E.out.later hal)
      have R0' := Lib.hid (ReadI.later R0.out hal)
      have R1' := Lib.hid (ReadI.later R1.out hal)
      have R2' := Lib.hid (ReadI.later R2.out hal)
      have R3' := Lib.hid (ReadI.later R3.out hal)
      have F6' := Lib.hid (Blk.below F6.out hal F6.out.lt)
      clear E R0 R1 R2 R3 F6
      have E := E'; clear E'
      have R0 := R0'; clear R0'
      have R1 := R1'; clear R1'
      have R2 := R2'; clear R2'
      have R3 := R3'; clear R3'
      have F6 := F6'; clear F6'
      have F7 := Lib.hid F7n
      clear F7n hal
      go_wp2
      generalize hwz : w11.alloc (.cells #[.int .i64 fx, .int .i64 fy] 37) = wz at E R0 R1 R2 R3 F6 F7 ⊢
      clear hwz
      have hi300 := HI300.out
      go_loopw [29] (fun v wr => ∃ r : Nat, r ≤ i ∧ v = .int .i64 r ∧ Below wz.heap.size wz wr) (fun v _ => i - (intOf v).toNat)
      case atStart => exact ⟨0, by omega, rfl, Below.refl _ _⟩
      case round =>
        obtain ⟨r, hr, rfl, hb⟩ := hrel
        have HB := Lib.hid hb
        clear hb
        by_cases hlt : r < i
        · have hrl : r < l.length := by rw [HLI.out]; exact hlt
          obtain ⟨ad, X1, y1, e1, hcell1, hlt1, hR1, hc1, hd1⟩ := (E.out.ri.later HB.out).2 r hrl
          obtain ⟨bd, X2, y2, e2, hcell2, hlt2, hR2, hc2, hd2⟩ := (E.out.rv.later HB.out).2 r hrl
          subst e1 e2
          have q0 := equalI_any X1 X2 l[r].length y1 l[r].length y2 l[r] l[r] wr.drew hR1 hR2 (Nat.le_trans hc1 hd1)
          rw [show decide (l[r] = l[r]) = true from decide_eq_true rfl] at q0
          have hltI : (r : Int) < (i : Int) := by omega
          generalize l[r].length = z at *
          clear hR1 hR2 hc1 hd1 hc2 hd2
          go_wp2
          refine region_tail 8 (by kernel_rfl) (by kernel_rfl) ?_
          simp only [List.take_succ_cons, List.take_zero, List.drop_succ_cons, List.drop_zero]
          still_step
          still_step
          still_step
          still_step
          still_step
          still_step
          still_step
          still_step
          refine wpStill_nil ?_
          go_wp2_with fail
          refine q0.mono ?_
          rintro e w5 ⟨rfl, hb5⟩
          have HB5 := Lib.hid (HB.out.drew.trans (hb5.mono HB.out.drew.size))
          clear hb5 q0
          go_wp2
          go_roundw
          case rel => exact ⟨r + 1, by omega, by go_num, HB5.out⟩
          case measure => simp [intOf]; omega
        · obtain rfl : r = i := by omega
          have E' := Lib.hid (E.out.later HB.out)
          have R0' := Lib.hid (ReadI.later R0.out HB.out)
          have R1' := Lib.hid (ReadI.later R1.out HB.out)
          have R2' := Lib.hid (ReadI.later R2.out HB.out)
          have R3' := Lib.hid (ReadI.later R3.out HB.out)
          have F6' := Lib.hid (Blk.below F6.out HB.out F6.out.lt)
          have F7' := Lib.hid (Blk.below F7.out HB.out F7.out.lt)
          clear E R0 R1 R2 R3 F6 F7
          have E := E'; clear E'
          have R0 := R0'; clear R0'
          have R1 := R1'; clear R1'
          have R2 := R2'; clear R2'
          have R3 := R3'; clear R3'
          have F6 := F6'; clear F6'
          have F7 := F7'; clear F7'
          have q0 := equalI_any A0 A1 x0.length c0 x0.length c1 x0 x0 _ R0.out R1.out (Nat.le_trans hn0 hm0)
          rw [show decide (x0 = x0) = true from decide_eq_true rfl] at q0
          go_wp2_with fail
          refine q0.mono ?_
          rintro e v13 ⟨rfl, hb⟩
          have E' := Lib.hid (E.out.later hb)
          have R0' := Lib.hid (ReadI.later R0.out hb)
          have R1' := Lib.hid (ReadI.later R1.out hb)
          have R2' := Lib.hid (ReadI.later R2.out hb)
          have R3' := Lib.hid (ReadI.later R3.out hb)
          have F6' := Lib.hid (Blk.below F6.out hb F6.out.lt)
          have F7' := Lib.hid (Blk.below F7.out hb F7.out.lt)
          clear E R0 R1 R2 R3 F6 F7
          have E := E'; clear E'
          have R0 := R0'; clear R0'
          have R1 := R1'; clear R1'
          have R2 := R2'; clear R2'
          have R3 := R3'; clear R3'
          have F6 := F6'; clear F6'
          have F7 := F7'; clear F7'
          clear q0 hb
          have q0 := equalI_any A2 A3 x1.length c2 x1.length c3 x1 x1 _ R2.out R3.out (Nat.le_trans hn2 hm2)
          rw [show decide (x1 = x1) = true from decide_eq_true rfl] at q0
          go_wp2_with fail
          refine q0.mono ?_
          rintro e v14 ⟨rfl, hb⟩
          have E' := Lib.hid (E.out.later hb)
          have R0' := Lib.hid (ReadI.later R0.out hb)
          have R1' := Lib.hid (ReadI.later R1.out hb)
          have R2' := Lib.hid (ReadI.later R2.out hb)
          have R3' := Lib.hid (ReadI.later R3.out hb)
          have F6' := Lib.hid (Blk.below F6.out hb F6.out.lt)
          have F7' := Lib.hid (Blk.below F7.out hb F7.out.lt)
          clear E R0 R1 R2 R3 F6 F7
          have E := E'; clear E'
          have R0 := R0'; clear R0'
          have R1 := R1'; clear R1'
          have R2 := R2'; clear R2'
          have R3 := R3'; clear R3'
          have F6 := F6'; clear F6'
          have F7 := F7'; clear F7'
          clear q0 hb
          have f0 := F6.out.cell 0; have f1 := F6.out.cell 1; have g0 := F7.out.cell 0; have g1 := F7.out.cell 1
          simp only [List.getElem?_toArray, List.getElem?_cons_zero, List.getElem?_cons_succ] at f0 f1 g0 g1
          go_wp2_with fail
          refine (HWK.out _).mono ?_
          rintro e v15 ⟨rfl, hb⟩
          have HBE := Lib.hid (E.out.below.trans (hb.mono E.out.below.size))
          clear hb f0 f1 g0 g1
          go_wp2
          go_ret
          exact ⟨rfl, HBE.out⟩
end Go.Proofs.YtgimhjkijpcgjaaDoor
