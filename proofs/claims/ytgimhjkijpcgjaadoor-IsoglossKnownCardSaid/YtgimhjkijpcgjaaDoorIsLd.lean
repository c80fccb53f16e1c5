/-
  IsoglossKnown: the walk, out of what New hands back. Conditions: none. (Printed by law37d.py.)
-/
import Derived.Test.YtgimhjkijpcgjaaDoorIsLa
namespace Go.Proofs.YtgimhjkijpcgjaaDoor
open Go.RowKit Go.Lib

abbrev many37 : List (List Int) := List.replicate 257 []
abbrev short37 : List (List Int) := [vU, [1, 2]]
def om1 : Option Pts := some (newM [⟨#[97]⟩] [])
theorem ok1 : newE [⟨#[97]⟩] [] = 0 := by decide +kernel
theorem new1 : NewO om1 := fun _ e => by
  injection e with e
  exact ⟨[⟨#[97]⟩], [], ok1, e.symm⟩
/-- What IsoglossKnown reads. -/
structure EnvK (w W : World) (p : Option Addr) (b0 b1 b gm g2 gs : Nat) : Prop where
  e : Env37 w W p b0 b1 b
  many : Blk W gm 26 (madeCells #[.slice none 0 0] 257)
  sh2 : Blk W g2 3 #[.int .i64 1, .int .i64 2]
  sh : Blk W gs 26 #[.slice (some ⟨b0, 0, none⟩) 5 5, .slice (some ⟨g2, 0, none⟩) 2 2]
section
variable {w W W' : World} {p : Option Addr} {b0 b1 b gm g2 gs : Nat}
theorem EnvK.later (h : EnvK w W p b0 b1 b gm g2 gs) (hb : Below W.heap.size W W') : EnvK w W' p b0 b1 b gm g2 gs := ⟨h.e.later hb, h.many.below hb h.many.lt, h.sh2.below hb h.sh2.lt, h.sh.below hb h.sh.lt⟩
theorem EnvK.r4 (h : EnvK w W p b0 b1 b gm g2 gs) : ReadI W W.heap.size (some ⟨b0, 0, none⟩) 4 (vU.take 4) := by
  refine ⟨rfl, fun _ => ⟨_, rfl, h.e.u.lt, fun j u hu => ?_⟩⟩
  rw [add_at]
  refine (h.e.u.cell j).trans ?_
  rw [List.getElem?_toArray, ← hu, List.map_take, List.getElem?_take, if_pos]
  have := (List.getElem?_eq_some_iff.1 hu).1
  simpa [vU] using this
theorem lists_many {W : World} {gm : Nat} (n : Nat) (hk : Blk W gm 26 (madeCells #[.slice none 0 0] n)) : ReadII W W.heap.size (some ⟨gm, 0, none⟩) n (List.replicate n []) := by
  refine ⟨List.length_replicate, fun k hk' => ?_⟩
  have hk2 : k < n := by rw [List.length_replicate] at hk'; exact hk'
  have hg : (List.replicate n ([] : List Int))[k] = [] := List.getElem_replicate ..
  have hc : W.cell? ⟨gm, k, none⟩ = some (.slice none 0 0) := by
    refine (hk.cell k).trans ?_
    simp [madeCells, hk2, Nat.mod_one]
  rw [hg]
  exact ⟨_, none, 0, rfl, by rw [add_at]; exact hc, by rw [add_at]; exact hk.lt, Reads.none_, Nat.le_refl _, by unfold maxLen; omega⟩
theorem EnvK.lm (h : EnvK w W p b0 b1 b gm g2 gs) : ReadII W W.heap.size (some ⟨gm, 0, none⟩) 257 many37 := lists_many 257 h.many
theorem EnvK.ls (h : EnvK w W p b0 b1 b gm g2 gs) : ReadII W W.heap.size (some ⟨gs, 0, none⟩) 2 short37 := by
  refine ⟨rfl, fun j hj => ?_⟩
  have hj2 : j = 0 ∨ j = 1 := by simp at hj; omega
  rcases hj2 with rfl | rfl
  · exact ⟨_, _, _, rfl, by rw [add_at]; exact h.sh.cell 0, h.sh.lt, h.e.ru, Nat.le_refl _, by show 5 ≤ maxLen; unfold maxLen; decide⟩
  · exact ⟨_, _, _, rfl, by rw [add_at]; exact h.sh.cell 1, h.sh.lt, reads_at h.sh2 (xs := [(1 : Int), 2].map (Value.int .i64)) rfl rfl, Nat.le_refl _, by show 2 ≤ maxLen; unfold maxLen; decide⟩
end
theorem readII_nil (W : World) : ReadII W W.heap.size none 0 [] := ⟨rfl, fun _ hk => absurd hk (by simp)⟩
theorem k1 : cutsV om37 (vU.take 4) = [] := by decide +kernel
theorem k1e : chkN (lenO om37) [vU.take 4] = 2 := by decide +kernel
theorem k2 : bunV om37 many37 = [] := by decide +kernel
theorem k2e : chkN (lenO om37) many37 = 12 := by decide +kernel
theorem k3 : bunV om37 short37 = [] := by decide +kernel
theorem k3e : chkN (lenO om37) short37 = 2 := by decide +kernel
theorem k4 : borV om37 many37 0 = [] := by decide +kernel
theorem k5 : alkV (lenO om37) short37 9 = 0 := by decide +kernel
theorem k5e : alkE (lenO om37) short37 9 = 2 := by decide +kernel
theorem k6 : alkV (lenO om37) [vU, vW] 5 = 0 := by decide +kernel
theorem k6e : alkE (lenO om37) [vU, vW] 5 = 3 := by decide +kernel
theorem k7 : alkV (lenO om37) [vU, vW] (-1) = 0 := by decide +kernel
theorem k7e : alkE (lenO om37) [vU, vW] (-1) = 3 := by decide +kernel
theorem k8e : difE many37 (-1) 0 = 12 := by decide +kernel
theorem k8 : difA many37 (-1) 0 = .agg #[.int .i64 0, .int .i64 0] := by unfold difA; rw [k8e]; rfl
theorem k9e : difE short37 (-1) 0 = 2 := by decide +kernel
theorem k9 : difA short37 (-1) 0 = .agg #[.int .i64 0, .int .i64 0] := by unfold difA; rw [k9e]; rfl
theorem k10e : difE [] 0 0 = 3 := by decide +kernel
theorem k10 : difA [] 0 0 = .agg #[.int .i64 0, .int .i64 0] := by unfold difA; rw [k10e]; rfl
theorem k11e : difE [vU, vW] 0 5 = 3 := by decide +kernel
theorem k11 : difA [vU, vW] 0 5 = .agg #[.int .i64 0, .int .i64 0] := by unfold difA; rw [k11e]; rfl
theorem k13 : alkV (lenO om1) [] 0 = 0 := by decide +kernel
theorem k13e : alkE (lenO om1) [] 0 = 5 := by decide +kernel
theorem k14e : chkN (lenO om1) [[3]] = 0 := by decide +kernel
theorem k14 : cmpA om1 [3] = .agg #[.int .i64 1, .int .i64 1] := by kernel_rfl
theorem k15 : islV om1 [3] = [] := by decide +kernel
theorem k16 : islV om37 vW = [0, 1] := by decide +kernel
theorem k16e : chkN (lenO om37) [vW] = 0 := by decide +kernel
theorem k17 : borV om37 [vU, vW] 2 = [0, 0, 0, 0, 0] := by decide +kernel
theorem k18 : alkV (lenO om37) [vU, vW] 0 = 3 := by decide +kernel
theorem k18e : alkE (lenO om37) [vU, vW] 0 = 0 := by decide +kernel
set_option maxRecDepth 100000 in
set_option maxHeartbeats 16000000 in
theorem known_law (hnew : NewAny) (hwk : Works37) (w : World) : Calls Tryd.prog 9 #[] w fun e w' => e = .returned (.bool true) ∧ Below w.heap.size w w' := by
  have hmk : ∀ W : World, (Instr.makeSlice 43 (.int .i64 257) (.int .i64 257)).run Tryd.prog W = .ok (.slice (some ⟨W.heap.size, 0, none⟩) 257 257) (W.alloc (.cells (madeCells #[.slice none 0 0] 257) 26)) := fun W => run_make_row' (P := Tryd.prog) 43 26 (.slice none 0 0) 24 Tryd.underlying43 (by kernel_rfl) rfl .i64 .i64 257 (by omega) (by omega) W
  have HNEW := Lib.hid hnew; have HWK := Lib.hid hwk
  clear hwk
  go_enter Tryd.func9, Tryd.ntmps9
  go_wp2_with fail
  refine (example37_any hnew w).mono ?_
  rintro e w1 ⟨p, rfl, hM, hb1⟩
  have HM := Lib.hid hM; have HB1 := Lib.hid hb1
  clear hM hb1 hnew
  go_wp2_with fail
  refine (both37_any w1).mono ?_
  rintro e w2 ⟨b0, b1, b, rfl, q0, q1, q2, hb2⟩
  have E0 := Lib.hid (Env37.mk (HM.out.below hb2) q0 q1 q2 (HB1.out.trans (hb2.mono HB1.out.size)))
  clear q0 q1 q2 hb2 HM HB1
  have m1 := (Blk.new w2 26 (madeCells #[.slice none 0 0] 257)).alloc (.cells #[.int .i64 1, .int .i64 2] 3) |>.alloc (.cells #[.slice (some ⟨b0, 0, none⟩) 5 5, .slice (some ⟨w2.heap.size + 1, 0, none⟩) 2 2] 26)
  have m2 := (Blk.new (w2.alloc (.cells (madeCells #[.slice none 0 0] 257) 26)) 3 #[.int .i64 1, .int .i64 2]).alloc (.cells #[.slice (some ⟨b0, 0, none⟩) 5 5, .slice (some ⟨w2.heap.size + 1, 0, none⟩) 2 2] 26)
  have m3 := Blk.new ((w2.alloc (.cells (madeCells #[.slice none 0 0] 257) 26)).alloc (.cells #[.int .i64 1, .int .i64 2] 3)) 26 #[.slice (some ⟨b0, 0, none⟩) 5 5, .slice (some ⟨w2.heap.size + 1, 0, none⟩) 2 2]
  simp only [World.size_alloc] at m2 m3
  have hb3 : Below w2.heap.size w2 (((w2.alloc (.cells (madeCells #[.slice none 0 0] 257) 26)).alloc (.cells #[.int .i64 1, .int .i64 2] 3)).alloc (.cells #[.slice (some ⟨b0, 0, none⟩) 5 5, .slice (some ⟨w2.heap.size + 1, 0, none⟩) 2 2] 26)) := (((Below.refl _ w2).alloc (Nat.le_refl _) _).alloc (by simp) _).alloc (by simp; omega) _
  have E := Lib.hid (EnvK.mk (E0.out.later hb3) m1 m2 m3)
  have c0 : (w2.alloc (.cells (madeCells #[.slice none 0 0] 257) 26)).cell? ⟨b, 0, none⟩ = some (.slice (some ⟨b0, 0, none⟩) 5 5) := (E0.out.later ((Below.refl _ w2).alloc (Nat.le_refl _) (.cells (madeCells #[.slice none 0 0] 257) 26))).c0
  clear m1 m2 m3 hb3
  obtain ⟨gm, hgm⟩ : ∃ g, w2.heap.size = g := ⟨_, rfl⟩
  clear hgm gm
  have q0 := cutsP_any p om37 (some ⟨b0, 0, none⟩) 4 5 (vU.take 4) _ E.out.e.map new37 E.out.r4 (by decide) (by unfold maxLen; decide)
  unfold GivesE at q0
  rw [k1, k1e] at q0
  have c02 := E.out.e.c0
  go_wp2_with fail
  refine q0.mono ?_
  rintro e w3 ⟨v, rfl, ho, hb⟩
  obtain ⟨A1, d1, rfl, _, _⟩ := ownsRow_form ho
  have E' := Lib.hid (E.out.later hb)
  clear E  
  have E := E'; clear E'
  clear q0 ho hb c0 c02
  have q0 := bundlesP_any p om37 (some ⟨w2.heap.size, 0, none⟩) 257 257 many37 _ E.out.e.map new37 E.out.lm (plainA_at _) (by unfold maxLen; decide)
  unfold GivesE at q0
  rw [k2, k2e] at q0
  go_wp2_with fail
  refine q0.mono ?_
  rintro e w4 ⟨v, rfl, ho, hb⟩
  obtain ⟨A2, d2, rfl, _, _⟩ := ownsRow_form ho
  have E' := Lib.hid (E.out.later hb)
  clear E  
  have E := E'; clear E'
  clear q0 ho hb
  have q0 := bundlesP_any p om37 (some ⟨w2.heap.size + 1 + 1, 0, none⟩) 2 2 short37 _ E.out.e.map new37 E.out.ls (plainA_at _) (by unfold maxLen; decide)
  unfold GivesE at q0
  rw [k3, k3e] at q0
  go_wp2_with fail
  refine q0.mono ?_
  rintro e w5 ⟨v, rfl, ho, hb⟩
  obtain ⟨A3, d3, rfl, _, _⟩ := ownsRow_form ho
  have E' := Lib.hid (E.out.later hb)
  clear E  
  have E := E'; clear E'
  clear q0 ho hb
  have q0 := bordersP_any p om37 (some ⟨w2.heap.size, 0, none⟩) 257 257 many37 0 _ E.out.e.map new37 E.out.lm (plainA_at _) (by unfold maxLen; decide)
  unfold GivesE at q0
  rw [k4, k2e] at q0
  go_wp2_with fail
  refine q0.mono ?_
  rintro e w6 ⟨v, rfl, ho, hb⟩
  obtain ⟨A4, d4, rfl, _, _⟩ := ownsRow_form ho
  have E' := Lib.hid (E.out.later hb)
  clear E  
  have E := E'; clear E'
  clear q0 ho hb
  have q0 := alikeP_any p om37 (some ⟨w2.heap.size + 1 + 1, 0, none⟩) 2 2 short37 9 _ E.out.e.map new37 E.out.ls (plainA_at _) (by unfold maxLen; decide)
  unfold IntE at q0
  rw [k5, k5e] at q0
  go_wp2_with fail
  refine q0.mono ?_
  rintro e w7 ⟨rfl, hb⟩
  have E' := Lib.hid (E.out.later hb)
  clear E  
  have E := E'; clear E'
  clear q0 hb
  have q0 := alikeP_any p om37 (some ⟨b, 0, none⟩) 2 2 [vU, vW] 5 _ E.out.e.map new37 E.out.e.ll (plainA_at _) (by unfold maxLen; decide)
  unfold IntE at q0
  rw [k6, k6e] at q0
  go_wp2_with fail
  refine q0.mono ?_
  rintro e w8 ⟨rfl, hb⟩
  have E' := Lib.hid (E.out.later hb)
  clear E  
  have E := E'; clear E'
  clear q0 hb
  have q0 := alikeP_any p om37 (some ⟨b, 0, none⟩) 2 2 [vU, vW] (-1) _ E.out.e.map new37 E.out.e.ll (plainA_at _) (by unfold maxLen; decide)
  unfold IntE at q0
  rw [k7, k7e] at q0
  go_wp2_with fail
  refine q0.mono ?_
  rintro e w9 ⟨rfl, hb⟩
  have E' := Lib.hid (E.out.later hb)
  clear E  
  have E := E'; clear E'
  clear q0 hb
  have q0 := differFP_any (some ⟨w2.heap.size, 0, none⟩) 257 257 many37 (-1) 0 _ E.out.lm
  unfold FracE at q0
  rw [k8, k8e] at q0
  go_wp2_with fail
  refine q0.mono ?_
  rintro e w10 ⟨rfl, hb⟩
  have E' := Lib.hid (E.out.later hb)
  clear E  
  have E := E'; clear E'
  have hal := (Below.refl w10.heap.size w10).alloc (Nat.le_refl _) (.cells #[.int .i64 0, .int .i64 0] 37)
  clear q0 hb
  have E' := Lib.hid (E.out.later hal)
  clear E  
  have E := E'; clear E'
  clear hal
  have q0 := differFP_any (some ⟨w2.heap.size + 1 + 1, 0, none⟩) 2 2 short37 (-1) 0 _ E.out.ls
  unfold FracE at q0
  rw [k9, k9e] at q0
  go_wp2_with fail
  refine q0.mono ?_
  rintro e w11 ⟨rfl, hb⟩
  have E' := Lib.hid (E.out.later hb)
  clear E  
  have E := E'; clear E'
  have hal := (Below.refl w11.heap.size w11).alloc (Nat.le_refl _) (.cells #[.int .i64 0, .int .i64 0] 37)
  clear q0 hb
  have E' := Lib.hid (E.out.later hal)
  clear E  
  have E := E'; clear E'
  clear hal
  have q0 := differFP_any none 0 0 [] 0 0 (w11.alloc (.cells #[.int .i64 0, .int .i64 0] 37)) (readII_nil _)
  unfold FracE at q0
  rw [k10, k10e] at q0
  go_wp2_with fail
  refine q0.mono ?_
  rintro e w12 ⟨rfl, hb⟩
  have E' := Lib.hid (E.out.later hb)
  clear E  
  have E := E'; clear E'
  have hal := (Below.refl w12.heap.size w12).alloc (Nat.le_refl _) (.cells #[.int .i64 0, .int .i64 0] 37)
  clear q0 hb
  have E' := Lib.hid (E.out.later hal)
  clear E  
  have E := E'; clear E'
  clear hal
  have q0 := differFP_any (some ⟨b, 0, none⟩) 2 2 [vU, vW] 0 5 _ E.out.e.ll
  unfold FracE at q0
  rw [k11, k11e] at q0
  go_wp2_with fail
  refine q0.mono ?_
  rintro e w13 ⟨rfl, hb⟩
  have E' := Lib.hid (E.out.later hb)
  clear E  
  have E := E'; clear E'
  have hal := (Below.refl w13.heap.size w13).alloc (Nat.le_refl _) (.cells #[.int .i64 0, .int .i64 0] 37)
  clear q0 hb
  have E' := Lib.hid (E.out.later hal)
  clear E  
  have E := E'; clear E'
  clear hal
  have hal := (Below.refl (w13.alloc (.cells #[.int .i64 0, .int .i64 0] 37)).heap.size (w13.alloc (.cells #[.int .i64 0, .int .i64 0] 37))).alloc (Nat.le_refl _) (.cells #[.string ⟨#[97]⟩] 9)
  have q0 := HNEW.out (some ⟨(w13.alloc (.cells #[.int .i64 0, .int .i64 0] 37)).heap.size, 0, none⟩) none 1 1 0 0 [⟨#[97]⟩] [] _ (reads_at (Blk.new (w13.alloc (.cells #[.int .i64 0, .int .i64 0] 37)) 9 #[.string ⟨#[97]⟩]) (xs := [(⟨#[97]⟩ : ByteArray)].map Value.string) rfl rfl) Reads.none_ (by decide)
  simp only [World.size_alloc] at q0
  go_wp2_with fail
  refine q0.mono ?_
  intro e w14 h1
  obtain ⟨q, rfl, hq, hb⟩ := h1.om
  have e1 : newO [⟨#[97]⟩] [] = om1 := by unfold newO om1; rw [if_pos ok1]
  rw [e1] at hq
  rw [ok1]
  have hb' := hal.trans (hb.mono hal.size)
  have E' := Lib.hid (E.out.later hb')
  clear E  
  have E := E'; clear E'
  have HQ := Lib.hid hq
  clear h1 hq hb hb' hal q0 e1 HNEW
  have q0 := alikeP_any q om1 none 0 0 [] 0 _ HQ.out new1 (readII_nil _) plainA_none (by unfold maxLen; decide)
  unfold IntE at q0
  rw [k13, k13e] at q0
  go_wp2_with fail
  refine q0.mono ?_
  rintro e w15 ⟨rfl, hb⟩
  have E' := Lib.hid (E.out.later hb)
  have HQ' := Lib.hid (HQ.out.below hb)
  clear E HQ  
  have E := E'; clear E'
  have HQ := HQ'; clear HQ'
  clear q0 hb
  have hal := (Below.refl w15.heap.size w15).alloc (Nat.le_refl _) (.cells #[.int .i64 3] 3)
  have hx := Blk.new w15 3 #[.int .i64 3]
  have HX := Lib.hid hx
  clear hx
  have E' := Lib.hid (E.out.later hal)
  have HQ' := Lib.hid (HQ.out.below hal)
  clear E HQ  
  have E := E'; clear E'
  have HQ := HQ'; clear HQ'
  clear hal
  have q0 := compactP_any q om1 (some ⟨w15.heap.size, 0, none⟩) 1 1 [3] _ HQ.out new1 (reads_at HX.out (xs := [(3 : Int)].map (Value.int .i64)) rfl rfl) (by decide) (by unfold maxLen; decide)
  unfold FracE at q0
  rw [k14, show cmpE om1 [3] = 0 from k14e] at q0
  go_wp2_with fail
  refine q0.mono ?_
  rintro e w16 ⟨rfl, hb⟩
  have E' := Lib.hid (E.out.later hb)
  have HQ' := Lib.hid (HQ.out.below hb)
  clear E HQ  
  have E := E'; clear E'
  have HQ := HQ'; clear HQ'
  have hal := (Below.refl w16.heap.size w16).alloc (Nat.le_refl _) (.cells #[.int .i64 1, .int .i64 1] 37)
  have F14n := Blk.new w16 37 #[.int .i64 1, .int .i64 1]
  clear q0 hb
  have E' := Lib.hid (E.out.later hal)
  have HQ' := Lib.hid (HQ.out.below hal)
  clear E HQ  
  have E := E'; clear E'
  have HQ := HQ'; clear HQ'
  have F14 := Lib.hid F14n
  clear F14n
  clear hal
  clear HX
  have hal := (Below.refl (w16.alloc (.cells #[.int .i64 1, .int .i64 1] 37)).heap.size (w16.alloc (.cells #[.int .i64 1, .int .i64 1] 37))).alloc (Nat.le_refl _) (.cells #[.int .i64 3] 3)
  have hx := Blk.new (w16.alloc (.cells #[.int .i64 1, .int .i64 1] 37)) 3 #[.int .i64 3]
  rw [World.size_alloc] at hx
  have HX := Lib.hid hx
  clear hx
  have E' := Lib.hid (E.out.later hal)
  have HQ' := Lib.hid (HQ.out.below hal)
  have F14' := Lib.hid (Blk.below F14.out hal F14.out.lt)
  clear E HQ  F14
  have E := E'; clear E'
  have HQ := HQ'; clear HQ'
  have F14 := F14'; clear F14'
  clear hal
  have q0 := islandsP_any q om1 (some ⟨w16.heap.size + 1, 0, none⟩) 1 1 [3] _ HQ.out new1 (reads_at HX.out (xs := [(3 : Int)].map (Value.int .i64)) rfl rfl) (by decide) (by unfold maxLen; decide) (by decide)
  unfold GivesE at q0
  rw [k15, k14e] at q0
  go_wp2_with fail
  refine q0.mono ?_
  rintro e w17 ⟨v, rfl, ho, hb⟩
  have ho' : World.ownsRow w17 _ 3 1 v 0 _ := ho
  obtain ⟨A15, c15, rfl, _, _⟩ := ownsRow_form ho'
  have E' := Lib.hid (E.out.later hb)
  have HQ' := Lib.hid (HQ.out.below hb)
  have F14' := Lib.hid (Blk.below F14.out hb F14.out.lt)
  clear E HQ  F14
  have E := E'; clear E'
  have HQ := HQ'; clear HQ'
  have F14 := F14'; clear F14'
  clear q0 ho hb ho'
  clear HX
  have c1 := E.out.e.c1
  have q0 := islandsP_any p om37 (some ⟨b1, 0, none⟩) 5 5 vW _ E.out.e.map new37 E.out.e.rv (by decide) (by unfold maxLen; decide) (by decide)
  unfold GivesE at q0
  rw [k16, k16e] at q0
  go_wp2_with fail
  refine q0.mono ?_
  rintro e w18 ⟨v, rfl, ho, hb⟩
  have ho' : World.ownsRow w18 _ 3 1 v 2 _ := ho
  obtain ⟨A16, c16, rfl, _, _⟩ := ownsRow_form ho'
  have E' := Lib.hid (E.out.later hb)
  have HQ' := Lib.hid (HQ.out.below hb)
  have F14' := Lib.hid (Blk.below F14.out hb F14.out.lt)
  clear E HQ  F14
  have E := E'; clear E'
  have HQ := HQ'; clear HQ'
  have F14 := F14'; clear F14'
  have R16 := Lib.hid (Reads.of_own ho')
  have RA16 : Hid (A16 = A16) := Lib.hid rfl
  clear RA16
  clear q0 ho hb ho' c1
  have q0 := bordersP_any p om37 (some ⟨b, 0, none⟩) 2 2 [vU, vW] 2 _ E.out.e.map new37 E.out.e.ll (plainA_at _) (by unfold maxLen; decide)
  unfold GivesE at q0
  rw [k17, chkL37] at q0
  go_wp2_with fail
  refine q0.mono ?_
  rintro e w19 ⟨v, rfl, ho, hb⟩
  have ho' : World.ownsRow w19 _ 3 1 v 5 _ := ho
  obtain ⟨A17, c17, rfl, _, _⟩ := ownsRow_form ho'
  have E' := Lib.hid (E.out.later hb)
  have HQ' := Lib.hid (HQ.out.below hb)
  have R16' := Lib.hid (ReadI.later R16.out hb)
  have F14' := Lib.hid (Blk.below F14.out hb F14.out.lt)
  clear E HQ R16 F14
  have E := E'; clear E'
  have HQ := HQ'; clear HQ'
  have R16 := R16'; clear R16'
  have F14 := F14'; clear F14'
  have R17 := Lib.hid (Reads.of_own ho')
  have RA17 : Hid (A17 = A17) := Lib.hid rfl
  clear RA17
  clear q0 ho hb ho'
  have q0 := alikeP_any p om37 (some ⟨b, 0, none⟩) 2 2 [vU, vW] 0 _ E.out.e.map new37 E.out.e.ll (plainA_at _) (by unfold maxLen; decide)
  unfold IntE at q0
  rw [k18, k18e] at q0
  go_wp2_with fail
  refine q0.mono ?_
  rintro e w20 ⟨rfl, hb⟩
  have E' := Lib.hid (E.out.later hb)
  have HQ' := Lib.hid (HQ.out.below hb)
  have R16' := Lib.hid (ReadI.later R16.out hb)
  have R17' := Lib.hid (ReadI.later R17.out hb)
  have F14' := Lib.hid (Blk.below F14.out hb F14.out.lt)
  clear E HQ R16 R17 F14
  have E := E'; clear E'
  have HQ := HQ'; clear HQ'
  have R16 := R16'; clear R16'
  have R17 := R17'; clear R17'
  have F14 := F14'; clear F14'
  clear q0 hb
  have f0 := F14.out.cell 0; have f1 := F14.out.cell 1
  simp only [List.getElem?_toArray, List.getElem?_cons_zero, List.getElem?_cons_succ] at f0 f1
  have hal := (Below.refl w20.heap.size w20).alloc (Nat.le_refl _) (.cells #[.int .i64 0, .int .i64 1] 3)
  have q0 := equalI_any A16 (some ⟨w20.heap.size, 0, none⟩) 2 c16 2 2 [0, 1] [0, 1] (w20.alloc (.cells #[.int .i64 0, .int .i64 1] 3)) (ReadI.later R16.out hal) (reads_at (Blk.new w20 3 #[.int .i64 0, .int .i64 1]) (xs := [0, 1].map (Value.int .i64)) rfl rfl) (by unfold maxLen; decide)
  rw [show decide (([0, 1] : List Int) = [0, 1]) = true from by decide] at q0
  go_wp2_with fail
  refine q0.mono ?_
  rintro e w21 ⟨rfl, hb⟩
  clear f0 f1
  have hb' : Below w20.heap.size w20 w21 := hal.trans (hb.mono hal.size)
  have E' := Lib.hid (E.out.later hb')
  have HQ' := Lib.hid (HQ.out.below hb')
  have R16' := Lib.hid (ReadI.later R16.out hb')
  have R17' := Lib.hid (ReadI.later R17.out hb')
  have F14' := Lib.hid (Blk.below F14.out hb' F14.out.lt)
  clear E HQ R16 R17 F14
  have E := E'; clear E'
  have HQ := HQ'; clear HQ'
  have R16 := R16'; clear R16'
  have R17 := R17'; clear R17'
  have F14 := F14'; clear F14'
  clear hal q0 hb hb'
  have hal := (Below.refl w21.heap.size w21).alloc (Nat.le_refl _) (.cells #[.int .i64 0, .int .i64 0, .int .i64 0, .int .i64 0, .int .i64 0] 3)
  have q0 := equalI_any A17 (some ⟨w21.heap.size, 0, none⟩) 5 c17 5 5 [0, 0, 0, 0, 0] [0, 0, 0, 0, 0] (w21.alloc (.cells #[.int .i64 0, .int .i64 0, .int .i64 0, .int .i64 0, .int .i64 0] 3)) (ReadI.later R17.out hal) (reads_at (Blk.new w21 3 #[.int .i64 0, .int .i64 0, .int .i64 0, .int .i64 0, .int .i64 0]) (xs := [0, 0, 0, 0, 0].map (Value.int .i64)) rfl rfl) (by unfold maxLen; decide)
  rw [show decide (([0, 0, 0, 0, 0] : List Int) = [0, 0, 0, 0, 0]) = true from by decide] at q0
  go_wp2_with fail
  refine q0.mono ?_
  rintro e w22 ⟨rfl, hb⟩
  have hb' : Below w21.heap.size w21 w22 := hal.trans (hb.mono hal.size)
  have E' := Lib.hid (E.out.later hb')
  have HQ' := Lib.hid (HQ.out.below hb')
  have R16' := Lib.hid (ReadI.later R16.out hb')
  have R17' := Lib.hid (ReadI.later R17.out hb')
  have F14' := Lib.hid (Blk.below F14.out hb' F14.out.lt)
  clear E HQ R16 R17 F14
  have E := E'; clear E'
  have HQ := HQ'; clear HQ'
  have R16 := R16'; clear R16'
  have R17 := R17'; clear R17'
  have F14 := F14'; clear F14'
  clear hal q0 hb hb'
  go_wp2_with fail
  refine (HWK.out _).mono ?_
  rintro e w23 ⟨rfl, hb⟩
  have HBE := Lib.hid (E.out.e.below.trans (hb.mono E.out.e.below.size))
  clear hb
  go_wp2
  go_ret
  exact ⟨rfl, HBE.out⟩
end Go.Proofs.YtgimhjkijpcgjaaDoor
