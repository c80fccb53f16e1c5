/-
  layer 37: the statements' works, out of what New hands back. Conditions: none beside that. (Printed by works37.py.)
-/
import Derived.Test.YtgimhjkijpcgjaaDoorGav
namespace Go.Proofs.YtgimhjkijpcgjaaDoor
open Go.RowKit Go.Lib

/-- What works reads: the map of the examples, and the values. -/
structure Env37 (w W : World) (p : Option Addr) (b0 b1 b : Nat) : Prop where
  map : MapO W p om37
  u : Blk W b0 3 (vU.map (Value.int .i64)).toArray
  v : Blk W b1 3 (vW.map (Value.int .i64)).toArray
  l : Blk W b 26 #[.slice (some ⟨b0, 0, none⟩) 5 5, .slice (some ⟨b1, 0, none⟩) 5 5]
  below : Below w.heap.size w W
section
variable {w W W' : World} {p : Option Addr} {b0 b1 b : Nat}
theorem Env37.later (h : Env37 w W p b0 b1 b) (hb : Below W.heap.size W W') : Env37 w W' p b0 b1 b := ⟨h.map.below hb, h.u.below hb h.u.lt, h.v.below hb h.v.lt, h.l.below hb h.l.lt, h.below.trans (hb.mono h.below.size)⟩
theorem Env37.ru (h : Env37 w W p b0 b1 b) : ReadI W W.heap.size (some ⟨b0, 0, none⟩) 5 vU := reads_at h.u rfl rfl
theorem Env37.rv (h : Env37 w W p b0 b1 b) : ReadI W W.heap.size (some ⟨b1, 0, none⟩) 5 vW := reads_at h.v rfl rfl
theorem Env37.c0 (h : Env37 w W p b0 b1 b) : W.cell? ⟨b, 0, none⟩ = some (.slice (some ⟨b0, 0, none⟩) 5 5) := h.l.cell 0
theorem Env37.c1 (h : Env37 w W p b0 b1 b) : W.cell? ⟨b, 1, none⟩ = some (.slice (some ⟨b1, 0, none⟩) 5 5) := h.l.cell 1
theorem Env37.ll (h : Env37 w W p b0 b1 b) : ReadII W W.heap.size (some ⟨b, 0, none⟩) 2 [vU, vW] := by
  refine ⟨rfl, fun j hj => ?_⟩
  have hj2 : j = 0 ∨ j = 1 := by simp at hj; omega
  rcases hj2 with rfl | rfl
  · exact ⟨_, _, _, rfl, by rw [add_at]; exact h.c0, h.l.lt, h.ru, Nat.le_refl _, by show 5 ≤ maxLen; unfold maxLen; decide⟩
  · exact ⟨_, _, _, rfl, by rw [add_at]; exact h.c1, h.l.lt, h.rv, Nat.le_refl _, by show 5 ≤ maxLen; unfold maxLen; decide⟩
end
theorem cuts37 : cutsV om37 vU = [1, 2, 4] := by decide +kernel
theorem buns37 : bunV om37 [vU, vW] = [1, 1, 2, 0, 1] := by decide +kernel
theorem regs37 : regV om37 vU = [0, 0, 2, 0, 4] := by decide +kernel
theorem isls37 : islV om37 vU = [0, 2, 4] := by decide +kernel
theorem cmp37 : cmpA om37 vU = .agg #[.int .i64 2, .int .i64 5] := by kernel_rfl
theorem bors37 : borV om37 [vU, vW] 1 = [0, 1, 2, 0, 4] := by decide +kernel
theorem dif37 : difA [vU, vW] 0 2 = .agg #[.int .i64 1, .int .i64 1] := by kernel_rfl
theorem difE37 : difE [vU, vW] 0 2 = 0 := by decide +kernel
theorem alk37 : alkV (lenO om37) [vU, vW] 1 = 4 := by decide +kernel
theorem alkE37 : alkE (lenO om37) [vU, vW] 1 = 0 := by decide +kernel
theorem chkU37 : chkN (lenO om37) [vU] = 0 := by decide +kernel
theorem chkL37 : chkN (lenO om37) [vU, vW] = 0 := by decide +kernel
set_option maxRecDepth 40000 in
set_option maxHeartbeats 8000000 in
theorem works37_of (hnew : NewAny) (w : World) : Calls Tryd.prog 12 #[] w fun e w' => e = .returned (.bool true) ∧ Below w.heap.size w w' := by
  go_enter Tryd.func12, Tryd.ntmps12
  go_wp2_with fail
  refine (example37_any hnew w).mono ?_
  rintro e w1 ⟨p, rfl, hM, hb1⟩
  have HM := Lib.hid hM; have HB1 := Lib.hid hb1
  clear hM hb1 hnew
  go_wp2_with fail
  refine (both37_any w1).mono ?_
  rintro e w2 ⟨b0, b1, b, rfl, k0, k1, k2, hb2⟩
  have E := Lib.hid (Env37.mk (HM.out.below hb2) k0 k1 k2 (HB1.out.trans (hb2.mono HB1.out.size)))
  clear k0 k1 k2 hb2 HM HB1
  have q := cutsP_any p om37 (some ⟨b0, 0, none⟩) 5 5 vU _ E.out.map new37 E.out.ru (by decide) (by unfold maxLen; decide)
  unfold GivesE at q
  rw [cuts37, chkU37] at q
  have cb := E.out.c0
  go_wp2_with fail
  refine q.mono ?_
  rintro e w3 ⟨v, rfl, ho, hb⟩
  have ho' : World.ownsRow w3 _ 3 1 v 3 _ := ho
  obtain ⟨A0, c0, rfl, _, _⟩ := ownsRow_form ho'
  have E' := Lib.hid (E.out.later hb)
  clear E  
  have E := E'; clear E'
  have R0 := Lib.hid (Reads.of_own ho')
  clear q ho ho' hb cb
  have q := bundlesP_any p om37 (some ⟨b, 0, none⟩) 2 2 [vU, vW] _ E.out.map new37 E.out.ll (plainA_at b) (by unfold maxLen; decide)
  unfold GivesE at q
  rw [buns37, chkL37] at q
  go_wp2_with fail
  refine q.mono ?_
  rintro e w4 ⟨v, rfl, ho, hb⟩
  have ho' : World.ownsRow w4 _ 3 1 v 5 _ := ho
  obtain ⟨A1, c1, rfl, _, _⟩ := ownsRow_form ho'
  have E' := Lib.hid (E.out.later hb)
  have R0' := Lib.hid (ReadI.later R0.out hb)
  clear E R0 
  have E := E'; clear E'
  have R0 := R0'; clear R0'
  have R1 := Lib.hid (Reads.of_own ho')
  clear q ho ho' hb
  have q := regionsP_any p om37 (some ⟨b0, 0, none⟩) 5 5 vU _ E.out.map new37 E.out.ru (by decide) (by unfold maxLen; decide)
  unfold GivesE at q
  rw [regs37, chkU37] at q
  have cb := E.out.c0
  go_wp2_with fail
  refine q.mono ?_
  rintro e w5 ⟨v, rfl, ho, hb⟩
  have ho' : World.ownsRow w5 _ 3 1 v 5 _ := ho
  obtain ⟨A2, c2, rfl, _, _⟩ := ownsRow_form ho'
  have E' := Lib.hid (E.out.later hb)
  have R0' := Lib.hid (ReadI.later R0.out hb)
  have R1' := Lib.hid (ReadI.later R1.out hb)
  clear E R0 R1 
  have E := E'; clear E'
  have R0 := R0'; clear R0'
  have R1 := R1'; clear R1'
  have R2 := Lib.hid (Reads.of_own ho')
  clear q ho ho' hb cb
  have q := islandsP_any p om37 (some ⟨b0, 0, none⟩) 5 5 vU _ E.out.map new37 E.out.ru (by decide) (by unfold maxLen; decide) (by decide)
  unfold GivesE at q
  rw [isls37, chkU37] at q
  have cb := E.out.c0
  go_wp2_with fail
  refine q.mono ?_
  rintro e w6 ⟨v, rfl, ho, hb⟩
  have ho' : World.ownsRow w6 _ 3 1 v 3 _ := ho
  obtain ⟨A3, c3, rfl, _, _⟩ := ownsRow_form ho'
  have E' := Lib.hid (E.out.later hb)
  have R0' := Lib.hid (ReadI.later R0.out hb)
  have R1' := Lib.hid (ReadI.later R1.out hb)
  have R2' := Lib.hid (ReadI.later R2.out hb)
  clear E R0 R1 R2 
  have E := E'; clear E'
  have R0 := R0'; clear R0'
  have R1 := R1'; clear R1'
  have R2 := R2'; clear R2'
  have R3 := Lib.hid (Reads.of_own ho')
  clear q ho ho' hb cb
  have q := compactP_any p om37 (some ⟨b0, 0, none⟩) 5 5 vU _ E.out.map new37 E.out.ru (by decide) (by unfold maxLen; decide)
  unfold FracE at q
  rw [cmp37, show cmpE om37 vU = 0 from chkU37] at q
  have cb := E.out.c0
  go_wp2_with fail
  refine q.mono ?_
  rintro e w7 ⟨rfl, hb⟩
  have E' := Lib.hid (E.out.later hb)
  have R0' := Lib.hid (ReadI.later R0.out hb)
  have R1' := Lib.hid (ReadI.later R1.out hb)
  have R2' := Lib.hid (ReadI.later R2.out hb)
  have R3' := Lib.hid (ReadI.later R3.out hb)
  clear E R0 R1 R2 R3 
  have E := E'; clear E'
  have R0 := R0'; clear R0'
  have R1 := R1'; clear R1'
  have R2 := R2'; clear R2'
  have R3 := R3'; clear R3'
  have hal := (Below.refl w7.heap.size w7).alloc (Nat.le_refl _) (.cells #[.int .i64 2, .int .i64 5] 37)
  have F4n := Blk.new w7 37 #[.int .i64 2, .int .i64 5]
  clear q hb cb
  have E' := Lib.hid (E.out.later hal)
  have R0' := Lib.hid (ReadI.later R0.out hal)
  have R1' := Lib.hid (ReadI.later R1.out hal)
  have R2' := Lib.hid (ReadI.later R2.out hal)
  have R3' := Lib.hid (ReadI.later R3.out hal)
  clear E R0 R1 R2 R3 
  have E := E'; clear E'
  have R0 := R0'; clear R0'
  have R1 := R1'; clear R1'
  have R2 := R2'; clear R2'
  have R3 := R3'; clear R3'
  have F4 := Lib.hid F4n
  clear F4n hal
  have q := bordersP_any p om37 (some ⟨b, 0, none⟩) 2 2 [vU, vW] 1 _ E.out.map new37 E.out.ll (plainA_at b) (by unfold maxLen; decide)
  unfold GivesE at q
  rw [bors37, chkL37] at q
  go_wp2_with fail
  refine q.mono ?_
  rintro e w8 ⟨v, rfl, ho, hb⟩
  have ho' : World.ownsRow w8 _ 3 1 v 5 _ := ho
  obtain ⟨A5, c5, rfl, _, _⟩ := ownsRow_form ho'
  have E' := Lib.hid (E.out.later hb)
  have R0' := Lib.hid (ReadI.later R0.out hb)
  have R1' := Lib.hid (ReadI.later R1.out hb)
  have R2' := Lib.hid (ReadI.later R2.out hb)
  have R3' := Lib.hid (ReadI.later R3.out hb)
  have F4' := Lib.hid (Blk.below F4.out hb F4.out.lt)
  clear E R0 R1 R2 R3 F4
  have E := E'; clear E'
  have R0 := R0'; clear R0'
  have R1 := R1'; clear R1'
  have R2 := R2'; clear R2'
  have R3 := R3'; clear R3'
  have F4 := F4'; clear F4'
  have R5 := Lib.hid (Reads.of_own ho')
  clear q ho ho' hb
  have q := differFP_any (some ⟨b, 0, none⟩) 2 2 [vU, vW] 0 2 _ E.out.ll
  unfold FracE at q
  rw [dif37, difE37] at q
  go_wp2_with fail
  refine q.mono ?_
  rintro e w9 ⟨rfl, hb⟩
  have E' := Lib.hid (E.out.later hb)
  have R0' := Lib.hid (ReadI.later R0.out hb)
  have R1' := Lib.hid (ReadI.later R1.out hb)
  have R2' := Lib.hid (ReadI.later R2.out hb)
  have R3' := Lib.hid (ReadI.later R3.out hb)
  have R5' := Lib.hid (ReadI.later R5.out hb)
  have F4' := Lib.hid (Blk.below F4.out hb F4.out.lt)
  clear E R0 R1 R2 R3 R5 F4
  have E := E'; clear E'
  have R0 := R0'; clear R0'
  have R1 := R1'; clear R1'
  have R2 := R2'; clear R2'
  have R3 := R3'; clear R3'
  have R5 := R5'; clear R5'
  have F4 := F4'; clear F4'
  have hal := (Below.refl w9.heap.size w9).alloc (Nat.le_refl _) (.cells #[.int .i64 1, .int .i64 1] 37)
  have F6n := Blk.new w9 37 #[.int .i64 1, .int .i64 1]
  clear q hb
  have E' := Lib.hid (E.out.later hal)
  have R0' := Lib.hid (ReadI.later R0.out hal)
  have R1' := Lib.hid (ReadI.later R1.out hal)
  have R2' := Lib.hid (ReadI.later R2.out hal)
  have R3' := Lib.hid (ReadI.later R3.out hal)
  have R5' := Lib.hid (ReadI.later R5.out hal)
  have F4' := Lib.hid (Blk.below F4.out hal F4.out.lt)
  clear E R0 R1 R2 R3 R5 F4
  have E := E'; clear E'
  have R0 := R0'; clear R0'
  have R1 := R1'; clear R1'
  have R2 := R2'; clear R2'
  have R3 := R3'; clear R3'
  have R5 := R5'; clear R5'
  have F4 := F4'; clear F4'
  have F6 := Lib.hid F6n
  clear F6n hal
  have q := alikeP_any p om37 (some ⟨b, 0, none⟩) 2 2 [vU, vW] 1 _ E.out.map new37 E.out.ll (plainA_at b) (by unfold maxLen; decide)
  unfold IntE at q
  rw [alk37, alkE37] at q
  go_wp2_with fail
  refine q.mono ?_
  rintro e w10 ⟨rfl, hb⟩
  have E' := Lib.hid (E.out.later hb)
  have R0' := Lib.hid (ReadI.later R0.out hb)
  have R1' := Lib.hid (ReadI.later R1.out hb)
  have R2' := Lib.hid (ReadI.later R2.out hb)
  have R3' := Lib.hid (ReadI.later R3.out hb)
  have R5' := Lib.hid (ReadI.later R5.out hb)
  have F4' := Lib.hid (Blk.below F4.out hb F4.out.lt)
  have F6' := Lib.hid (Blk.below F6.out hb F6.out.lt)
  clear E R0 R1 R2 R3 R5 F4 F6
  have E := E'; clear E'
  have R0 := R0'; clear R0'
  have R1 := R1'; clear R1'
  have R2 := R2'; clear R2'
  have R3 := R3'; clear R3'
  have R5 := R5'; clear R5'
  have F4 := F4'; clear F4'
  have F6 := F6'; clear F6'
  clear q hb
  have hal := (Below.refl w10.heap.size w10).alloc (Nat.le_refl _) (.cells #[.int .i64 1, .int .i64 2, .int .i64 4] 3)
  have q := equalI_any A0 (some ⟨w10.heap.size, 0, none⟩) 3 c0 3 3 [1, 2, 4] [1, 2, 4] (w10.alloc (.cells #[.int .i64 1, .int .i64 2, .int .i64 4] 3)) (ReadI.later R0.out hal) (reads_at (Blk.new w10 3 #[.int .i64 1, .int .i64 2, .int .i64 4]) (xs := [1, 2, 4].map (Value.int .i64)) rfl rfl) (by unfold maxLen; decide)
  rw [show decide (([1, 2, 4] : List Int) = [1, 2, 4]) = true from by decide] at q
  go_wp2_with fail
  refine q.mono ?_
  rintro e w11 ⟨rfl, hb⟩
  have hb' : Below w10.heap.size w10 w11 := hal.trans (hb.mono hal.size)
  have E' := Lib.hid (E.out.later hb')
  have R0' := Lib.hid (ReadI.later R0.out hb')
  have R1' := Lib.hid (ReadI.later R1.out hb')
  have R2' := Lib.hid (ReadI.later R2.out hb')
  have R3' := Lib.hid (ReadI.later R3.out hb')
  have R5' := Lib.hid (ReadI.later R5.out hb')
  have F4' := Lib.hid (Blk.below F4.out hb' F4.out.lt)
  have F6' := Lib.hid (Blk.below F6.out hb' F6.out.lt)
  clear E R0 R1 R2 R3 R5 F4 F6
  have E := E'; clear E'
  have R0 := R0'; clear R0'
  have R1 := R1'; clear R1'
  have R2 := R2'; clear R2'
  have R3 := R3'; clear R3'
  have R5 := R5'; clear R5'
  have F4 := F4'; clear F4'
  have F6 := F6'; clear F6'
  clear hal q hb hb'
  have hal := (Below.refl w11.heap.size w11).alloc (Nat.le_refl _) (.cells #[.int .i64 1, .int .i64 1, .int .i64 2, .int .i64 0, .int .i64 1] 3)
  have q := equalI_any A1 (some ⟨w11.heap.size, 0, none⟩) 5 c1 5 5 [1, 1, 2, 0, 1] [1, 1, 2, 0, 1] (w11.alloc (.cells #[.int .i64 1, .int .i64 1, .int .i64 2, .int .i64 0, .int .i64 1] 3)) (ReadI.later R1.out hal) (reads_at (Blk.new w11 3 #[.int .i64 1, .int .i64 1, .int .i64 2, .int .i64 0, .int .i64 1]) (xs := [1, 1, 2, 0, 1].map (Value.int .i64)) rfl rfl) (by unfold maxLen; decide)
  rw [show decide (([1, 1, 2, 0, 1] : List Int) = [1, 1, 2, 0, 1]) = true from by decide] at q
  go_wp2_with fail
  refine q.mono ?_
  rintro e w12 ⟨rfl, hb⟩
  have hb' : Below w11.heap.size w11 w12 := hal.trans (hb.mono hal.size)
  have E' := Lib.hid (E.out.later hb')
  have R0' := Lib.hid (ReadI.later R0.out hb')
  have R1' := Lib.hid (ReadI.later R1.out hb')
  have R2' := Lib.hid (ReadI.later R2.out hb')
  have R3' := Lib.hid (ReadI.later R3.out hb')
  have R5' := Lib.hid (ReadI.later R5.out hb')
  have F4' := Lib.hid (Blk.below F4.out hb' F4.out.lt)
  have F6' := Lib.hid (Blk.below F6.out hb' F6.out.lt)
  clear E R0 R1 R2 R3 R5 F4 F6
  have E := E'; clear E'
  have R0 := R0'; clear R0'
  have R1 := R1'; clear R1'
  have R2 := R2'; clear R2'
  have R3 := R3'; clear R3'
  have R5 := R5'; clear R5'
  have F4 := F4'; clear F4'
  have F6 := F6'; clear F6'
  clear hal q hb hb'
  have hal := (Below.refl w12.heap.size w12).alloc (Nat.le_refl _) (.cells #[.int .i64 0, .int .i64 0, .int .i64 2, .int .i64 0, .int .i64 4] 3)
  have q := equalI_any A2 (some ⟨w12.heap.size, 0, none⟩) 5 c2 5 5 [0, 0, 2, 0, 4] [0, 0, 2, 0, 4] (w12.alloc (.cells #[.int .i64 0, .int .i64 0, .int .i64 2, .int .i64 0, .int .i64 4] 3)) (ReadI.later R2.out hal) (reads_at (Blk.new w12 3 #[.int .i64 0, .int .i64 0, .int .i64 2, .int .i64 0, .int .i64 4]) (xs := [0, 0, 2, 0, 4].map (Value.int .i64)) rfl rfl) (by unfold maxLen; decide)
  rw [show decide (([0, 0, 2, 0, 4] : List Int) = [0, 0, 2, 0, 4]) = true from by decide] at q
  go_wp2_with fail
  refine q.mono ?_
  rintro e w13 ⟨rfl, hb⟩
  have hb' : Below w12.heap.size w12 w13 := hal.trans (hb.mono hal.size)
  have E' := Lib.hid (E.out.later hb')
  have R0' := Lib.hid (ReadI.later R0.out hb')
  have R1' := Lib.hid (ReadI.later R1.out hb')
  have R2' := Lib.hid (ReadI.later R2.out hb')
  have R3' := Lib.hid (ReadI.later R3.out hb')
  have R5' := Lib.hid (ReadI.later R5.out hb')
  have F4' := Lib.hid (Blk.below F4.out hb' F4.out.lt)
  have F6' := Lib.hid (Blk.below F6.out hb' F6.out.lt)
  clear E R0 R1 R2 R3 R5 F4 F6
  have E := E'; clear E'
  have R0 := R0'; clear R0'
  have R1 := R1'; clear R1'
  have R2 := R2'; clear R2'
  have R3 := R3'; clear R3'
  have R5 := R5'; clear R5'
  have F4 := F4'; clear F4'
  have F6 := F6'; clear F6'
  clear hal q hb hb'
  have hal := (Below.refl w13.heap.size w13).alloc (Nat.le_refl _) (.cells #[.int .i64 0, .int .i64 2, .int .i64 4] 3)
  have q := equalI_any A3 (some ⟨w13.heap.size, 0, none⟩) 3 c3 3 3 [0, 2, 4] [0, 2, 4] (w13.alloc (.cells #[.int .i64 0, .int .i64 2, .int .i64 4] 3)) (ReadI.later R3.out hal) (reads_at (Blk.new w13 3 #[.int .i64 0, .int .i64 2, .int .i64 4]) (xs := [0, 2, 4].map (Value.int .i64)) rfl rfl) (by unfold maxLen; decide)
  rw [show decide (([0, 2, 4] : List Int) = [0, 2, 4]) = true from by decide] at q
  go_wp2_with fail
  refine q.mono ?_
  rintro e w14 ⟨rfl, hb⟩
  have hb' : Below w13.heap.size w13 w14 := hal.trans (hb.mono hal.size)
  have E' := Lib.hid (E.out.later hb')
  have R0' := Lib.hid (ReadI.later R0.out hb')
  have R1' := Lib.hid (ReadI.later R1.out hb')
  have R2' := Lib.hid (ReadI.later R2.out hb')
  have R3' := Lib.hid (ReadI.later R3.out hb')
  have R5' := Lib.hid (ReadI.later R5.out hb')
  have F4' := Lib.hid (Blk.below F4.out hb' F4.out.lt)
  have F6' := Lib.hid (Blk.below F6.out hb' F6.out.lt)
  clear E R0 R1 R2 R3 R5 F4 F6
  have E := E'; clear E'
  have R0 := R0'; clear R0'
  have R1 := R1'; clear R1'
  have R2 := R2'; clear R2'
  have R3 := R3'; clear R3'
  have R5 := R5'; clear R5'
  have F4 := F4'; clear F4'
  have F6 := F6'; clear F6'
  clear hal q hb hb'
  have f0 := F4.out.cell 0; have f1 := F4.out.cell 1
  simp only [List.getElem?_toArray, List.getElem?_cons_zero, List.getElem?_cons_succ] at f0 f1
  have hal := (Below.refl w14.heap.size w14).alloc (Nat.le_refl _) (.cells #[.int .i64 0, .int .i64 1, .int .i64 2, .int .i64 0, .int .i64 4] 3)
  have q := equalI_any A5 (some ⟨w14.heap.size, 0, none⟩) 5 c5 5 5 [0, 1, 2, 0, 4] [0, 1, 2, 0, 4] (w14.alloc (.cells #[.int .i64 0, .int .i64 1, .int .i64 2, .int .i64 0, .int .i64 4] 3)) (ReadI.later R5.out hal) (reads_at (Blk.new w14 3 #[.int .i64 0, .int .i64 1, .int .i64 2, .int .i64 0, .int .i64 4]) (xs := [0, 1, 2, 0, 4].map (Value.int .i64)) rfl rfl) (by unfold maxLen; decide)
  rw [show decide (([0, 1, 2, 0, 4] : List Int) = [0, 1, 2, 0, 4]) = true from by decide] at q
  go_wp2_with fail
  refine q.mono ?_
  rintro e w15 ⟨rfl, hb⟩
  clear f0 f1
  have hb' : Below w14.heap.size w14 w15 := hal.trans (hb.mono hal.size)
  have E' := Lib.hid (E.out.later hb')
  have R0' := Lib.hid (ReadI.later R0.out hb')
  have R1' := Lib.hid (ReadI.later R1.out hb')
  have R2' := Lib.hid (ReadI.later R2.out hb')
  have R3' := Lib.hid (ReadI.later R3.out hb')
  have R5' := Lib.hid (ReadI.later R5.out hb')
  have F4' := Lib.hid (Blk.below F4.out hb' F4.out.lt)
  have F6' := Lib.hid (Blk.below F6.out hb' F6.out.lt)
  clear E R0 R1 R2 R3 R5 F4 F6
  have E := E'; clear E'
  have R0 := R0'; clear R0'
  have R1 := R1'; clear R1'
  have R2 := R2'; clear R2'
  have R3 := R3'; clear R3'
  have R5 := R5'; clear R5'
  have F4 := F4'; clear F4'
  have F6 := F6'; clear F6'
  clear hal q hb hb'
  have f0 := F6.out.cell 0; have f1 := F6.out.cell 1
  simp only [List.getElem?_toArray, List.getElem?_cons_zero, List.getElem?_cons_succ] at f0 f1
  go_wp2
  go_ret
  exact ⟨rfl, E.out.below⟩
end Go.Proofs.YtgimhjkijpcgjaaDoor
