/-
  Layer 40: Back: the walk. Conditions: a dictionary in memory.
-/
import Derived.Test.YtgkpoopiamicnaaDoorZaan
import Derived.Test.YtgkpoopiamicnaaDoorZaaj
namespace Go.Proofs.YtgkpoopiamicnaaDoor
open Go.RowKit Go.Lib

def backL (L : List Art) (s : ByteArray) : List ByteArray := (headsL L).filter fun x => memB (seeOf L x) s
section
variable {w : World} {B a g mb : Nat} {hv : Value} {gs : Grps} {S : Nat → Prop} {L : List Art} {f : ByteArray → Option Value}
set_option linter.unusedSimpArgs false in
set_option maxRecDepth 20000 in
set_option maxHeartbeats 4000000 in
theorem backed_any (h : DictM w B a g mb hv gs S L f) (x s : ByteArray) (hx : x.size ≤ 140737488351232) (W : World) (hW : Below w.heap.size w W) (b1 b2 : Nat) (k1 : Blk W b1 24 #[wptr g]) (k2 : Blk W b2 9 #[.string s]) :
    Calls Tryd.prog 42 #[.string x, wptr b1, wptr b2] W fun e W' => e = .returned (.bool (memB (seeOf L x) s)) ∧ Below W.heap.size W W' := by
  have hlk := (h.below hW.drew).look1 x (by unfold maxLen; omega)
  obtain ⟨z0, z1, z2⟩ := (h.below hW).cells
  obtain ⟨cs, hav, hcs⟩ := h.at_ x
  obtain ⟨A1, c1, A2, c2, A3, c3, rfl, -, -, hr3, -, -, q3⟩ := hcs.reads (fun b hb => (h.cont b hb).2.1)
  have hrs : ReadS w w.heap.size A3 (artOf L x).see.length (seeOf L x) := hr3
  have hrs2 : ReadS W.drew W.drew.heap.size A3 (artOf L x).see.length (seeOf L x) := show ReadS _ _ _ _ _ from (Reads.below hrs (hW.drew)).more hW.drew.size
  have hcall := containsT_any A3 (artOf L x).see.length c3 _ (seeOf L x) s W.drew hrs2 (by omega)
  have d0 := k1.cell 0; have d1 := k2.cell 0
  simp only [List.getElem?_toArray, List.getElem?_cons_zero] at d0 d1
  rw [hav] at hlk
  dsimp only [aggM] at hlk
  have hfd := field_see (.string (artOf L x).head) (.slice A1 (artOf L x).word.length c1) (.slice A2 (artOf L x).texts.length c2) (.slice A3 (artOf L x).see.length c3)
  have hgl := h.lt
  clear h hcs hr3 hrs hrs2 hav k1 k2
  generalize (artOf L x).head = h8 at *
  generalize (artOf L x).word.length = n8 at *
  generalize (artOf L x).texts.length = m8 at *
  generalize (artOf L x).see.length = p8 at *
  go_enter Tryd.func42, Tryd.ntmps42
  go_upto_region 1 with fail
  refine region_tail 8 (by kernel_rfl) (by kernel_rfl) ?_
  simp only [List.take_succ_cons, List.take_zero, List.drop_succ_cons, List.drop_zero]
  iterate 8 still_step
  refine wpStill_nil ?_
  go_wp2_with fail
  refine hcall.mono ?_
  rintro e w' ⟨rfl, rfl⟩
  go_wp2
  go_ret
  exact ⟨rfl, (Below.refl _ _).drew⟩
set_option linter.unusedSimpArgs false in
set_option maxRecDepth 20000 in
set_option maxHeartbeats 4000000 in
theorem back_any (h : DictM w B a g mb hv gs S L f) (hg : GoodD gs L) (s : ByteArray) :
    Calls Tryd.prog 20 #[wptr g, .string s] w (GivesT w (backL L s)) := by
  obtain ⟨W, hW⟩ : ∃ W, (w.alloc (.cells #[wptr g] 24)).alloc (.cells #[.string s] 9) = W := ⟨_, rfl⟩
  have hb : Below w.heap.size w W := hW ▸ ((Below.refl _ _).alloc (Nat.le_refl _) _).alloc (by simp) _
  have k1 : Blk W w.heap.size 24 #[wptr g] := by
    have := (Blk.new w 24 #[wptr g]).alloc (.cells #[.string s] 9)
    rwa [hW] at this
  have k2 : Blk W (w.heap.size + 1) 9 #[.string s] := by
    have := Blk.new (w.alloc (.cells #[wptr g] 24)) 9 #[.string s]
    rw [hW] at this
    simpa using this
  have hv1 := valid_any (h.below hb)
  have hsz := hg.hsize
  have hwh := where_any (h.below hb) hg (fun x => memB (seeOf L x) s) 42 #[wptr w.heap.size, wptr (w.heap.size + 1)] (enters_of Tryd.func42 (by kernel_rfl) rfl) (fun W' x hW' hx => backed_any h x s (by have := hsz x hx; omega) W' (hb.trans (hW'.mono hb.size)) _ _ (k1.below hW' k1.lt) (k2.below hW' k2.lt))
  have d0 := k1.cell 0
  simp only [List.getElem?_toArray, List.getElem?_cons_zero] at d0
  have HB := Lib.hid hb; have HWH := Lib.hid hwh; have HV := Lib.hid hv1; have D0 := Lib.hid d0; have HW := Lib.hid hW
  clear h hg hb k1 k2 hv1 hsz hwh d0 hW
  go_enter Tryd.func20, Tryd.ntmps20
  go_upto_region 1 with fail
  rw [HW.out]
  have d0 := D0.out
  go_wp2_with fail
  refine HV.out.mono ?_
  rintro e w1 ⟨rfl, rfl⟩
  go_wp2_with fail
  refine HWH.out.mono ?_
  rintro e w2 ⟨v, rfl, ho, hb2⟩
  have HO := Lib.hid ho; have HB2 := Lib.hid hb2
  clear ho hb2
  go_wp2
  go_ret
  exact ⟨_, rfl, own_mono HO.out HB.out.size, HB.out.trans (HB2.out.mono HB.out.size)⟩
end
theorem back_in {w : World} {B : Nat} {v : Value} {gs : Grps} {L : List Art} (h : DictIn w B v gs L) (s : ByteArray) : Calls Tryd.prog 20 #[v, .string s] w (GivesT w (backL L s)) := by
  obtain ⟨a, g, mb, hv, S, f, rfl, h1, h2⟩ := h
  exact back_any h1 h2 s
end Go.Proofs.YtgkpoopiamicnaaDoor
