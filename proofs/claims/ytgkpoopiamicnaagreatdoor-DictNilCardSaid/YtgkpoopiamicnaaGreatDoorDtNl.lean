/-
  Layer 40: DictNil: the walk. Conditions: a text and an article that are read.
-/
import Derived.Test.YtgkpoopiamicnaaGreatDoorDtNp
namespace Go.Proofs.YtgkpoopiamicnaaGreatDoor
open Go.RowKit Go.Lib

theorem valid_at {w : World} {B : Nat} {v : Value} {gs : Grps} {L : List Art} {D : Nat → Prop} (h : DictAt w B v gs L D) : Calls Tryz.prog 51 #[v] w fun e w' => e = .returned (.bool true) ∧ w = w' := by
  obtain ⟨a, g, mb, hv, S, f, rfl, h1, -⟩ := h
  exact valid_any h1
theorem oneErr : newErr [sA] = 0 := by decide +kernel
theorem oneG : groupsB [sA] = [[sA]] := by decide +kernel
set_option linter.unusedSimpArgs false in
set_option maxRecDepth 20000 in
set_option maxHeartbeats 8000000 in
theorem dictNil_law (w : World) (s x1 : ByteArray) (X1 X2 X3 : Option Addr) (x2 x3 x4 y1 y2 y3 : Nat) :
    Calls Tryz.prog 6 #[.string s, .agg #[.string x1, .slice X1 x2 y1, .slice X2 x3 y2, .slice X3 x4 y3]] w (BoolPost w true) := by
  obtain ⟨wA, hwA⟩ : ∃ W, w.alloc (.cells #[.string x1, .slice X1 x2 y1, .slice X2 x3 y2, .slice X3 x4 y3] 42) = W := ⟨_, rfl⟩
  have hbA : Below w.heap.size w wA := hwA ▸ (Below.refl _ _).alloc (Nat.le_refl _) _
  have hbx : Blk wA w.heap.size 42 #[.string x1, .slice X1 x2 y1, .slice X2 x3 y2, .slice X3 x4 y3] := hwA ▸ Blk.new w _ _
  have HBX := Lib.hid hbx; have HBA := Lib.hid hbA
  clear hbx hbA
  have hn1 := dnew_nil (w := wA) (p := .pointer none) (.inl rfl)
  go_enter Tryz.func6, Tryz.ntmps6
  go_upto_region 1 with fail
  clear hwA
  go_wp2_with fail
  refine hn1.mono ?_
  rintro e w1 ⟨rfl, hb1⟩
  have HB1 := Lib.hid hb1
  clear hn1 hb1
  have hza : NilA (w1.alloc (.cells Tryz.zeroCells73 73)) (wptr w1.heap.size) := by
    have hb := Blk.new w1 73 Tryz.zeroCells73
    have hc := hb.cell 1
    rw [show Tryz.zeroCells73[1]? = some (.map none) from by kernel_rfl] at hc
    exact .inr ⟨_, rfl, hb.lt, hc⟩
  have hn2 := dnew_nil hza
  have HB1a := Lib.hid (HB1.out.alloc HB1.out.size (.cells Tryz.zeroCells73 73))
  clear hza
  go_wp2_with fail
  refine hn2.mono ?_
  rintro e w2 ⟨rfl, hb2⟩
  have hp3 := dparse_nil (w := w2) (p := .pointer none) (q := .pointer none) s (fun W _ => (dnew_nil (w := W) (p := .pointer none) (.inl rfl)).mono fun e W' ⟨h1, h2⟩ => ⟨_, _, h1, h2⟩) (.inl rfl)
  have HB2 := Lib.hid (HB1a.out.trans (hb2.mono HB1a.out.size))
  clear hn2 hb2 HB1 HB1a
  go_wp2_with fail
  refine hp3.mono ?_
  rintro e w3 ⟨rfl, hb3⟩
  have HB3 := Lib.hid (HB2.out.trans (hb3.mono HB2.out.size))
  clear hp3 hb3 HB2
  have hz0 := (Blk.new w3 78 #[.pointer none, .map none, .slice none 0 0]).alloc (.cells #[.pointer none, .pointer (some ⟨w3.heap.size, 0, none⟩)] 33)
  have hz1 := Blk.new (w3.alloc (.cells #[.pointer none, .map none, .slice none 0 0] 78)) 33 #[.pointer none, .pointer (some ⟨w3.heap.size, 0, none⟩)]
  rw [World.size_alloc] at hz1
  have HB0 := Lib.hid ((HB3.out.alloc HB3.out.size (.cells #[.pointer none, .map none, .slice none 0 0] 78)).alloc (by have := HB3.out.size; simp; omega) (.cells #[.pointer none, .pointer (some ⟨w3.heap.size, 0, none⟩)] 33))
  have hxc : ∀ W, Below wA.heap.size wA W → W.cell? ⟨w.heap.size, 0, none⟩ = some (.string x1) ∧ W.cell? ⟨w.heap.size, 1, none⟩ = some (.slice X1 x2 y1) ∧ W.cell? ⟨w.heap.size, 2, none⟩ = some (.slice X2 x3 y2) ∧ W.cell? ⟨w.heap.size, 3, none⟩ = some (.slice X3 x4 y3) := fun W hW => by
    have y := HBX.out.below hW HBX.out.lt
    exact ⟨y.cell 0, y.cell 1, y.cell 2, y.cell 3⟩
  have HXC := Lib.hid hxc; have HZ0 := Lib.hid hz0; have HZ1 := Lib.hid hz1
  clear hxc hz0 hz1
  go_wp2
  go_loopw [16, 17, 18, 19, 20, 21, 22, 23, 24, 25] (fun i _ _ _ _ _ _ _ _ _ wr => ∃ k : Nat, k ≤ 2 ∧ i = .int .i64 k ∧ Below (w3.heap.size + 2) ((w3.alloc (.cells #[.pointer none, .map none, .slice none 0 0] 78)).alloc (.cells #[.pointer none, .pointer (some ⟨w3.heap.size, 0, none⟩)] 33)) wr) (fun i _ _ _ _ _ _ _ _ _ _ => 2 - (RowKit.intOf i).toNat)
  case atStart => exact ⟨0, by omega, rfl, Below.refl _ _⟩
  case round =>
    obtain ⟨k, hk, rfl, hb⟩ := hrel
    have HBL := Lib.hid hb
    have hz0 := HZ0.out.below hb (by omega)
    have hz1 := HZ1.out.below hb (by omega)
    have p0 := hz1.cell 0; have p1 := hz1.cell 1
    simp only [List.getElem?_toArray, List.getElem?_cons_zero, List.getElem?_cons_succ] at p0 p1
    have HBR := Lib.hid (HB0.out.trans (hb.mono (by have := HB3.out.size; omega)))
    clear hb hz1
    rcases (by omega : k = 0 ∨ k = 1 ∨ k = 2) with rfl | rfl | rfl
    · skip
      have hnd : NilD wr (.pointer none) := .inl rfl
      have HND := Lib.hid (fun W (hb : Below wr.heap.size wr W) => hnd.below hb)
      have g := dget_nil hnd s
      go_wp2_with fail
      refine g.mono ?_
      rintro e v1 ⟨rfl, hc⟩
      have Hv1 : Hid (Below wr.heap.size wr v1) := Lib.hid ((Below.refl wr.heap.size wr).trans (hc.mono (Below.refl wr.heap.size wr).size))
      clear g hc
      dsimp only [aggM]
      have hby := Blk.new v1 42 #[.string ⟨#[]⟩, .slice none 0 0, .slice none 0 0, .slice none 0 0]
      have hba : Below v1.heap.size v1 (v1.alloc (.cells #[.string ⟨#[]⟩, .slice none 0 0, .slice none 0 0, .slice none 0 0] 42)) := (Below.refl _ _).alloc (Nat.le_refl _) _
      have HBY := Lib.hid hby
      have Hva : Hid (Below wr.heap.size wr (v1.alloc (.cells #[.string ⟨#[]⟩, .slice none 0 0, .slice none 0 0, .slice none 0 0] 42))) := Lib.hid (Hv1.out.trans (hba.mono Hv1.out.size))
      have HV0A : Hid (Below (v1.alloc (.cells #[.string ⟨#[]⟩, .slice none 0 0, .slice none 0 0, .slice none 0 0] 42)).heap.size (v1.alloc (.cells #[.string ⟨#[]⟩, .slice none 0 0, .slice none 0 0, .slice none 0 0] 42)) (v1.alloc (.cells #[.string ⟨#[]⟩, .slice none 0 0, .slice none 0 0, .slice none 0 0] 42))) := Lib.hid (Below.refl _ _)
      clear hby hba
      have g := drange_nil (HND.out (v1.alloc (.cells #[.string ⟨#[]⟩, .slice none 0 0, .slice none 0 0, .slice none 0 0] 42)) Hva.out) s s
      go_wp2_with fail
      refine g.mono ?_
      rintro e v2 ⟨rfl, hc⟩
      have Hv2 : Hid (Below wr.heap.size wr v2) := Lib.hid (Hva.out.trans (hc.mono Hva.out.size))
      have HV2A : Hid (Below (v1.alloc (.cells #[.string ⟨#[]⟩, .slice none 0 0, .slice none 0 0, .slice none 0 0] 42)).heap.size (v1.alloc (.cells #[.string ⟨#[]⟩, .slice none 0 0, .slice none 0 0, .slice none 0 0] 42)) v2) := Lib.hid (HV0A.out.trans (hc.mono HV0A.out.size))
      clear g hc
      have g := dfrom_nil (HND.out v2 Hv2.out) s
      go_wp2_with fail
      refine g.mono ?_
      rintro e v3 ⟨rfl, hc⟩
      have Hv3 : Hid (Below wr.heap.size wr v3) := Lib.hid (Hv2.out.trans (hc.mono Hv2.out.size))
      have HV3A : Hid (Below (v1.alloc (.cells #[.string ⟨#[]⟩, .slice none 0 0, .slice none 0 0, .slice none 0 0] 42)).heap.size (v1.alloc (.cells #[.string ⟨#[]⟩, .slice none 0 0, .slice none 0 0, .slice none 0 0] 42)) v3) := Lib.hid (HV2A.out.trans (hc.mono HV2A.out.size))
      clear g hc
      have g := dtext_nil (q := .pointer none) false (fun W hb => dvalid_nil (HND.out W (Hv3.out.trans (hb.mono Hv3.out.size)))) (.inl rfl)
      go_wp2_with fail
      refine g.mono ?_
      rintro e v4 ⟨rfl, hc⟩
      have Hv4 : Hid (Below wr.heap.size wr v4) := Lib.hid (Hv3.out.trans (hc.mono Hv3.out.size))
      have HV4A : Hid (Below (v1.alloc (.cells #[.string ⟨#[]⟩, .slice none 0 0, .slice none 0 0, .slice none 0 0] 42)).heap.size (v1.alloc (.cells #[.string ⟨#[]⟩, .slice none 0 0, .slice none 0 0, .slice none 0 0] 42)) v4) := Lib.hid (HV3A.out.trans (hc.mono HV3A.out.size))
      clear g hc
      obtain ⟨x0, x1c, x2c, x3c⟩ := HXC.out v4 (HBR.out.trans (Hv4.out.mono HBR.out.size))
      have g := dput_nil (HND.out v4 Hv4.out) (.string x1) (.slice X1 x2 y1) (.slice X2 x3 y2) (.slice X3 x4 y3)
      go_wp2_with fail
      refine g.mono ?_
      rintro e v5 ⟨rfl, hc⟩
      have Hv5 : Hid (Below wr.heap.size wr v5) := Lib.hid (Hv4.out.trans (hc.mono Hv4.out.size))
      have HV5A : Hid (Below (v1.alloc (.cells #[.string ⟨#[]⟩, .slice none 0 0, .slice none 0 0, .slice none 0 0] 42)).heap.size (v1.alloc (.cells #[.string ⟨#[]⟩, .slice none 0 0, .slice none 0 0, .slice none 0 0] 42)) v5) := Lib.hid (HV4A.out.trans (hc.mono HV4A.out.size))
      clear g hc
      clear x0 x1c x2c x3c
      have g := dremove_nil (HND.out v5 Hv5.out) s
      go_wp2_with fail
      refine g.mono ?_
      rintro e v6 ⟨rfl, hc⟩
      have Hv6 : Hid (Below wr.heap.size wr v6) := Lib.hid (Hv5.out.trans (hc.mono Hv5.out.size))
      have HV6A : Hid (Below (v1.alloc (.cells #[.string ⟨#[]⟩, .slice none 0 0, .slice none 0 0, .slice none 0 0] 42)).heap.size (v1.alloc (.cells #[.string ⟨#[]⟩, .slice none 0 0, .slice none 0 0, .slice none 0 0] 42)) v6) := Lib.hid (HV5A.out.trans (hc.mono HV5A.out.size))
      clear g hc
      have hy6 := HBY.out.below (w' := v6) (B := (v1.alloc (.cells #[.string ⟨#[]⟩, .slice none 0 0, .slice none 0 0, .slice none 0 0] 42)).heap.size) HV6A.out HBY.out.lt
      have q0 := hy6.cell 0; have q1 := hy6.cell 1; have q2 := hy6.cell 2; have q3 := hy6.cell 3
      simp only [List.getElem?_toArray, List.getElem?_cons_zero, List.getElem?_cons_succ] at q0 q1 q2 q3
      have g := same_any v6 art0 _ _ (fun _ => False) (fun _ => False) (artF0 v6 _) (artF0 v6 _) (fun _ h => h.elim) (fun _ h => h.elim)
      go_wp2_with fail
      refine g.mono ?_
      rintro e v7 ⟨rfl, hc⟩
      have Hv7 : Hid (Below wr.heap.size wr v7) := Lib.hid (Hv6.out.trans (hc.mono Hv6.out.size))
      clear g hc
      clear q0 q1 q2 q3 hy6
      have g := dlen_nil (HND.out v7 Hv7.out)
      go_wp2_with fail
      refine g.mono ?_
      rintro e v8 ⟨rfl, hc⟩
      have Hv8 : Hid (Below wr.heap.size wr v8) := Lib.hid (Hv7.out.trans (hc.mono Hv7.out.size))
      clear g hc
      have g := dlist_nil (HND.out v8 Hv8.out)
      go_wp2_with fail
      refine g.mono ?_
      rintro e v9 ⟨rfl, hc⟩
      have Hv9 : Hid (Below wr.heap.size wr v9) := Lib.hid (Hv8.out.trans (hc.mono Hv8.out.size))
      clear g hc
      have g := dmissing_nil (HND.out v9 Hv9.out)
      go_wp2_with fail
      refine g.mono ?_
      rintro e va1 ⟨rfl, hc⟩
      have Hva1 : Hid (Below wr.heap.size wr va1) := Lib.hid (Hv9.out.trans (hc.mono Hv9.out.size))
      clear g hc
      have g := dback_nil (HND.out va1 Hva1.out) s
      go_wp2_with fail
      refine g.mono ?_
      rintro e va2 ⟨rfl, hc⟩
      have Hva2 : Hid (Below wr.heap.size wr va2) := Lib.hid (Hva1.out.trans (hc.mono Hva1.out.size))
      clear g hc
      have g := dcycles_nil (HND.out va2 Hva2.out)
      go_wp2_with fail
      refine g.mono ?_
      rintro e va3 ⟨rfl, hc⟩
      have Hva3 : Hid (Below wr.heap.size wr va3) := Lib.hid (Hva2.out.trans (hc.mono Hva2.out.size))
      clear g hc
      have g := dcopy_nil (HND.out va3 Hva3.out)
      go_wp2_with fail
      refine g.mono ?_
      rintro e va4 ⟨rfl, hc⟩
      have Hva4 : Hid (Below wr.heap.size wr va4) := Lib.hid (Hva3.out.trans (hc.mono Hva3.out.size))
      clear g hc
      go_wp2
      go_roundw
      case rel => exact ⟨1, by omega, by first | rfl | go_num, HBL.out.trans (Hva4.out.mono (by have h := HBL.out.size; simp at h; omega))⟩
      case measure => simp [RowKit.intOf]
    · skip
      have hnd : NilD wr (wptr w3.heap.size) := .inr ⟨_, rfl, hz0⟩
      have HND := Lib.hid (fun W (hb : Below wr.heap.size wr W) => hnd.below hb)
      have g := dget_nil hnd s
      go_wp2_with fail
      refine g.mono ?_
      rintro e v1 ⟨rfl, hc⟩
      have Hv1 : Hid (Below wr.heap.size wr v1) := Lib.hid ((Below.refl wr.heap.size wr).trans (hc.mono (Below.refl wr.heap.size wr).size))
      clear g hc
      dsimp only [aggM]
      have hby := Blk.new v1 42 #[.string ⟨#[]⟩, .slice none 0 0, .slice none 0 0, .slice none 0 0]
      have hba : Below v1.heap.size v1 (v1.alloc (.cells #[.string ⟨#[]⟩, .slice none 0 0, .slice none 0 0, .slice none 0 0] 42)) := (Below.refl _ _).alloc (Nat.le_refl _) _
      have HBY := Lib.hid hby
      have Hva : Hid (Below wr.heap.size wr (v1.alloc (.cells #[.string ⟨#[]⟩, .slice none 0 0, .slice none 0 0, .slice none 0 0] 42))) := Lib.hid (Hv1.out.trans (hba.mono Hv1.out.size))
      have HV0A : Hid (Below (v1.alloc (.cells #[.string ⟨#[]⟩, .slice none 0 0, .slice none 0 0, .slice none 0 0] 42)).heap.size (v1.alloc (.cells #[.string ⟨#[]⟩, .slice none 0 0, .slice none 0 0, .slice none 0 0] 42)) (v1.alloc (.cells #[.string ⟨#[]⟩, .slice none 0 0, .slice none 0 0, .slice none 0 0] 42))) := Lib.hid (Below.refl _ _)
      clear hby hba
      have g := drange_nil (HND.out (v1.alloc (.cells #[.string ⟨#[]⟩, .slice none 0 0, .slice none 0 0, .slice none 0 0] 42)) Hva.out) s s
      go_wp2_with fail
      refine g.mono ?_
      rintro e v2 ⟨rfl, hc⟩
      have Hv2 : Hid (Below wr.heap.size wr v2) := Lib.hid (Hva.out.trans (hc.mono Hva.out.size))
      have HV2A : Hid (Below (v1.alloc (.cells #[.string ⟨#[]⟩, .slice none 0 0, .slice none 0 0, .slice none 0 0] 42)).heap.size (v1.alloc (.cells #[.string ⟨#[]⟩, .slice none 0 0, .slice none 0 0, .slice none 0 0] 42)) v2) := Lib.hid (HV0A.out.trans (hc.mono HV0A.out.size))
      clear g hc
      have g := dfrom_nil (HND.out v2 Hv2.out) s
      go_wp2_with fail
      refine g.mono ?_
      rintro e v3 ⟨rfl, hc⟩
      have Hv3 : Hid (Below wr.heap.size wr v3) := Lib.hid (Hv2.out.trans (hc.mono Hv2.out.size))
      have HV3A : Hid (Below (v1.alloc (.cells #[.string ⟨#[]⟩, .slice none 0 0, .slice none 0 0, .slice none 0 0] 42)).heap.size (v1.alloc (.cells #[.string ⟨#[]⟩, .slice none 0 0, .slice none 0 0, .slice none 0 0] 42)) v3) := Lib.hid (HV2A.out.trans (hc.mono HV2A.out.size))
      clear g hc
      have g := dtext_nil (q := .pointer none) false (fun W hb => dvalid_nil (HND.out W (Hv3.out.trans (hb.mono Hv3.out.size)))) (.inl rfl)
      go_wp2_with fail
      refine g.mono ?_
      rintro e v4 ⟨rfl, hc⟩
      have Hv4 : Hid (Below wr.heap.size wr v4) := Lib.hid (Hv3.out.trans (hc.mono Hv3.out.size))
      have HV4A : Hid (Below (v1.alloc (.cells #[.string ⟨#[]⟩, .slice none 0 0, .slice none 0 0, .slice none 0 0] 42)).heap.size (v1.alloc (.cells #[.string ⟨#[]⟩, .slice none 0 0, .slice none 0 0, .slice none 0 0] 42)) v4) := Lib.hid (HV3A.out.trans (hc.mono HV3A.out.size))
      clear g hc
      obtain ⟨x0, x1c, x2c, x3c⟩ := HXC.out v4 (HBR.out.trans (Hv4.out.mono HBR.out.size))
      have g := dput_nil (HND.out v4 Hv4.out) (.string x1) (.slice X1 x2 y1) (.slice X2 x3 y2) (.slice X3 x4 y3)
      go_wp2_with fail
      refine g.mono ?_
      rintro e v5 ⟨rfl, hc⟩
      have Hv5 : Hid (Below wr.heap.size wr v5) := Lib.hid (Hv4.out.trans (hc.mono Hv4.out.size))
      have HV5A : Hid (Below (v1.alloc (.cells #[.string ⟨#[]⟩, .slice none 0 0, .slice none 0 0, .slice none 0 0] 42)).heap.size (v1.alloc (.cells #[.string ⟨#[]⟩, .slice none 0 0, .slice none 0 0, .slice none 0 0] 42)) v5) := Lib.hid (HV4A.out.trans (hc.mono HV4A.out.size))
      clear g hc
      clear x0 x1c x2c x3c
      have g := dremove_nil (HND.out v5 Hv5.out) s
      go_wp2_with fail
      refine g.mono ?_
      rintro e v6 ⟨rfl, hc⟩
      have Hv6 : Hid (Below wr.heap.size wr v6) := Lib.hid (Hv5.out.trans (hc.mono Hv5.out.size))
      have HV6A : Hid (Below (v1.alloc (.cells #[.string ⟨#[]⟩, .slice none 0 0, .slice none 0 0, .slice none 0 0] 42)).heap.size (v1.alloc (.cells #[.string ⟨#[]⟩, .slice none 0 0, .slice none 0 0, .slice none 0 0] 42)) v6) := Lib.hid (HV5A.out.trans (hc.mono HV5A.out.size))
      clear g hc
      have hy6 := HBY.out.below (w' := v6) (B := (v1.alloc (.cells #[.string ⟨#[]⟩, .slice none 0 0, .slice none 0 0, .slice none 0 0] 42)).heap.size) HV6A.out HBY.out.lt
      have q0 := hy6.cell 0; have q1 := hy6.cell 1; have q2 := hy6.cell 2; have q3 := hy6.cell 3
      simp only [List.getElem?_toArray, List.getElem?_cons_zero, List.getElem?_cons_succ] at q0 q1 q2 q3
      have g := same_any v6 art0 _ _ (fun _ => False) (fun _ => False) (artF0 v6 _) (artF0 v6 _) (fun _ h => h.elim) (fun _ h => h.elim)
      go_wp2_with fail
      refine g.mono ?_
      rintro e v7 ⟨rfl, hc⟩
      have Hv7 : Hid (Below wr.heap.size wr v7) := Lib.hid (Hv6.out.trans (hc.mono Hv6.out.size))
      clear g hc
      clear q0 q1 q2 q3 hy6
      have g := dlen_nil (HND.out v7 Hv7.out)
      go_wp2_with fail
      refine g.mono ?_
      rintro e v8 ⟨rfl, hc⟩
      have Hv8 : Hid (Below wr.heap.size wr v8) := Lib.hid (Hv7.out.trans (hc.mono Hv7.out.size))
      clear g hc
      have g := dlist_nil (HND.out v8 Hv8.out)
      go_wp2_with fail
      refine g.mono ?_
      rintro e v9 ⟨rfl, hc⟩
      have Hv9 : Hid (Below wr.heap.size wr v9) := Lib.hid (Hv8.out.trans (hc.mono Hv8.out.size))
      clear g hc
      have g := dmissing_nil (HND.out v9 Hv9.out)
      go_wp2_with fail
      refine g.mono ?_
      rintro e va1 ⟨rfl, hc⟩
      have Hva1 : Hid (Below wr.heap.size wr va1) := Lib.hid (Hv9.out.trans (hc.mono Hv9.out.size))
      clear g hc
      have g := dback_nil (HND.out va1 Hva1.out) s
      go_wp2_with fail
      refine g.mono ?_
      rintro e va2 ⟨rfl, hc⟩
      have Hva2 : Hid (Below wr.heap.size wr va2) := Lib.hid (Hva1.out.trans (hc.mono Hva1.out.size))
      clear g hc
      have g := dcycles_nil (HND.out va2 Hva2.out)
      go_wp2_with fail
      refine g.mono ?_
      rintro e va3 ⟨rfl, hc⟩
      have Hva3 : Hid (Below wr.heap.size wr va3) := Lib.hid (Hva2.out.trans (hc.mono Hva2.out.size))
      clear g hc
      have g := dcopy_nil (HND.out va3 Hva3.out)
      go_wp2_with fail
      refine g.mono ?_
      rintro e va4 ⟨rfl, hc⟩
      have Hva4 : Hid (Below wr.heap.size wr va4) := Lib.hid (Hva3.out.trans (hc.mono Hva3.out.size))
      clear g hc
      go_wp2
      go_roundw
      case rel => exact ⟨2, by omega, by first | rfl | go_num, HBL.out.trans (Hva4.out.mono (by have h := HBL.out.size; simp at h; omega))⟩
      case measure => simp [RowKit.intOf]
    · have HWW := Lib.hid (HBA.out.trans (HBR.out.mono HBA.out.size))
      have hN := fun W c (hr : ReadS W W.heap.size (some ⟨wr.heap.size, 0, none⟩) 1 [sA]) => newW_any (some ⟨wr.heap.size, 0, none⟩) 1 c [sA] W hr (by omega) (by decide)
      have HN := Lib.hid hN
      clear hN p0 p1 hz0 HZ0 HZ1 HBX HXC HBL HB0 HB3 HBR
      go_wp2_with fail
      refine (HN.out _ _ (by exact Reads.more (readS_lay wr [sA]) (by simp))).mono ?_
      rintro e u1 ⟨_, hok, hb1⟩
      obtain ⟨ga, rfl, hA, hG⟩ := hok oneErr
      rw [oneG] at hA hG
      have HU1 : Hid (Below wr.heap.size wr u1) := Lib.hid (((Below.refl _ wr).alloc (Nat.le_refl _) _).trans (hb1.mono (by simp)))
      have hd := dnew_at ga u1 hA hG
      have HA := Lib.hid hA; have HG := Lib.hid hG
      clear hok hA hG hb1 HN
      go_wp2_with fail
      refine hd.mono ?_
      rintro e u2 ⟨v, D, rfl, hd2, hb2⟩
      obtain ⟨g, rfl⟩ := hd2.dict.ptr
      have HU2 := Lib.hid (HU1.out.trans (hb2.mono HU1.out.size))
      have HA2 := Lib.hid (HA.out.below hb2)
      have ht := dtext_nil (w := u2) (p := wptr g) (q := .pointer none) true (fun W hb => valid_at (hd2.below hb)) (.inl rfl)
      clear hd hd2 hb2
      go_wp2_with fail
      refine ht.mono ?_
      rintro e u3 ⟨rfl, hb3⟩
      have HU3 := Lib.hid (HU2.out.trans (hb3.mono HU2.out.size))
      have HA3 := Lib.hid (HA2.out.below hb3)
      have hb4 : Below u3.heap.size u3 (u3.alloc (.cells #[.pointer none, .slice none 0 0, .map none] 89)) := (Below.refl _ _).alloc (Nat.le_refl _) _
      have hp := dparse_nil (w := u3.alloc (.cells #[.pointer none, .slice none 0 0, .map none] 89)) (p := wptr ga) (q := wptr u3.heap.size) ⟨#[]⟩ (fun W hW => (dnew_at ga W (HA3.out.below (hb4.trans (hW.mono hb4.size))) HG.out).mono fun e W' ⟨v, D, h1, _, h2⟩ => ⟨_, _, h1, h2⟩) (.inr ⟨_, rfl, Blk.new u3 _ _⟩)
      have HU4 := Lib.hid (HU3.out.trans (hb4.mono HU3.out.size))
      clear ht hb3 hb4
      go_wp2_with fail
      refine hp.mono ?_
      rintro e u5 ⟨rfl, hb5⟩
      have hwk := works_any u5
      have HU5 := Lib.hid (HU4.out.trans (hb5.mono HU4.out.size))
      clear hp hb5
      go_wp2_with fail
      refine hwk.mono ?_
      rintro e u6 ⟨rfl, hb6⟩
      have HU6 := Lib.hid (HWW.out.trans ((HU5.out.trans (hb6.mono HU5.out.size)).mono HWW.out.size))
      clear hwk hb6
      go_wp2
      go_ret
      exact ⟨rfl, HU6.out⟩
end Go.Proofs.YtgkpoopiamicnaaGreatDoor
