/-
  Layer 40: lists that are put together; articles, List, Len, Get, where. Conditions: a dictionary in memory.
-/
import Derived.Test.YtgkpoopiamicnaaDoorZaDtQ
namespace Go.Proofs.YtgkpoopiamicnaaDoor
open Go.RowKit Go.Lib

/-! A list that is put together, whose elements' parts are new. -/
def KeepF {α : Type} (F : World → (Nat → Prop) → α → List Value → Prop) : Prop := ∀ (w w' : World) (S S' : Nat → Prop) (x : α) (cs : List Value), (∀ b, S b → S' b) → KeepS S w w' → F w S x cs → F w' S' x cs
theorem keepF_art : KeepF ArtF := fun _ _ _ _ _ _ hs hk h => h.keep hs hk
theorem keepF_lx : KeepF LxF := fun _ _ _ _ _ _ hs hk ⟨v, e, h⟩ => ⟨v, e, h.keep hs hk⟩
structure GR {α : Type} (F : World → (Nat → Prop) → α → List Value → Prop) (k : Nat) (t : TypeId) (w wr : World) (l : List α) (v : Value) (xs : List Value) : Prop where
  own : wr.ownsRow w.heap.size t k v l.length xs
  rows : RowsF F wr (fun b => w.heap.size ≤ b ∧ b < wr.heap.size ∧ v.ownBlock ≠ some b) l xs
  ch : Below w.heap.size w wr
section
variable {α : Type} {F : World → (Nat → Prop) → α → List Value → Prop} {k : Nat} {t : TypeId} {w w0 wr w2 w3 : World} {l : List α} {v v' : Value} {xs ys : List Value} {x : α}
theorem GR.start (h : Below w.heap.size w wr) : GR F k t w wr [] (.slice none 0 0) [] := ⟨World.ownsRow_nil _ _ _ _, rfl, h⟩
theorem GR.below (hF : KeepF F) (h : GR F k t w wr l v xs) (hb : Below wr.heap.size wr w2) : GR F k t w w2 l v xs :=
  ⟨own_below h.own hb, h.rows.imp fun _ _ hy => hF _ _ _ _ _ _ (fun _ hb2 => ⟨hb2.1, Nat.lt_of_lt_of_le hb2.2.1 hb.size, hb2.2.2⟩) (keepS_below hb fun _ hb2 => hb2.2.1) hy, h.ch.trans (hb.mono h.ch.size)⟩
theorem GR.fin (hF : KeepF F) (h : GR F k t w wr l v xs) : SlF F k wr (NewS w wr) l v :=
  slF_own h.own (fun c hc => World.ownsRow.lt h.own c hc) (h.rows.imp fun _ _ hy => hF _ _ _ _ _ _ (fun _ hc => ⟨hc.1, hc.2.1⟩) (fun _ _ => rfl) hy)
theorem GR.own2 (h : GR F k t w wr l v xs) (hc : Below wr.heap.size wr w2) : w2.ownsRow w.heap.size t k v l.length xs := own_below h.own hc
theorem GR.next (hF : KeepF F) (h : GR F k t w wr l v xs) (hc : Below wr.heap.size wr w2) (hx : F w2 (NewS wr w2) x ys)
    (hown' : w3.ownsRow w.heap.size t k v' (l.length + 1) (xs ++ ys)) (hgrow : (w2.alloc (.cells ys.toArray t)).grownBy w3 v.ownBlock) (hv : v'.ownBlock = v.ownBlock ∨ v'.ownBlock = some (w2.alloc (.cells ys.toArray t)).heap.size) :
    GR F k t w w3 (l ++ [x]) v' (xs ++ ys) := by
  have hsz0 := h.ch.size
  have hsz2 := hc.size
  have hsz3 := hgrow.size
  simp only [World.size_alloc] at hsz3 hv
  have hown2 := h.own2 hc
  have hcell3 : ∀ q : Addr, q.block < w2.heap.size → some q.block ≠ v.ownBlock → w3.cell? q = w2.cell? q := fun q hq hne => by
    unfold World.cell?
    rw [hgrow.block q.block (by rw [World.size_alloc]; omega) hne, Below.heap_alloc _ _ _ hq]
  have hnew : ∀ c, c < w2.heap.size → v.ownBlock ≠ some c → v'.ownBlock ≠ some c := fun c hc hne e => by
    rcases hv with hv | hv
    · exact hne (by rw [← hv, e])
    · rw [e] at hv
      injection hv with hv
      omega
  have hold : RowsF F w2 (fun b => w.heap.size ≤ b ∧ b < w2.heap.size ∧ v.ownBlock ≠ some b) l xs := (h.below hF hc).rows
  have hp1 : F w2 (fun b => w.heap.size ≤ b ∧ b < w2.heap.size ∧ v.ownBlock ≠ some b) x ys := hF _ _ _ _ _ _ (fun c hc => by
    have h0 : wr.heap.size ≤ c := hc.1
    exact ⟨by omega, hc.2, fun e => by have := (h.own.lt c e).2; omega⟩) (fun _ _ => rfl) hx
  refine ⟨by rw [List.length_append]; exact hown', (RowsF.append hp1 hold).imp fun y cy hy => hF _ _ _ _ _ _ (fun c hc => ⟨hc.1, by have := hc.2.1; omega, hnew c hc.2.1 hc.2.2⟩) (fun q hq => hcell3 q hq.2.1 (fun e => hq.2.2 e.symm)) hy, ?_⟩
  have hb2 := (h.ch.trans (hc.mono hsz0)).alloc (by omega) (.cells ys.toArray t)
  exact hb2.grown hgrow (by rw [World.size_alloc]; omega) (fun c hc => (hown2.lt c hc).1)
end
theorem artOf_good {gs : Grps} {L : List Art} (hg : GoodD gs L) (s : ByteArray) : ArtShort (artOf L s) ∧ ArtOk (artOf L s) := by
  unfold artOf
  cases h : getA L s with
  | none => exact ⟨⟨by simp [art0], by simp [art0], by simp [art0]⟩, artOk0⟩
  | some x =>
    have hx := hg.arts x (getA_some h).1
    refine ⟨⟨?_, by have := hx.texts.1; show x.texts.length ≤ 100000; omega, by have := hx.see.1; show x.see.length ≤ 100000; omega⟩, hx.ok⟩
    have hw := hx.word
    unfold wordE at hw
    show x.word.length ≤ 100000
    by_cases h32 : 32 < x.word.length
    · rw [if_pos h32] at hw; omega
    · omega
theorem readS_str {w : World} {A : Option Addr} {n : Nat} {l : List ByteArray} (h : ReadS w w.heap.size A n l) : l.length = n := h.len
def ListPost (w : World) (l : List Art) (e : Ending) (w' : World) : Prop := ∃ v, e = .returned v ∧ ArtsF w' (NewS w w') l v ∧ Below w.heap.size w w'
section
variable {w : World} {B a g mb : Nat} {hv : Value} {gs : Grps} {S : Nat → Prop} {L : List Art} {f : ByteArray → Option Value}
theorem DictM.artAt (h : DictM w B a g mb hv gs S L f) (hg : GoodD gs L) (s : ByteArray) (W : World) (hb : Below w.heap.size w W) : ∃ cs, artV f s = aggM cs ∧ Calls Tryd.prog 35 #[aggM cs] W (ClonePost W (artOf L s)) := by
  obtain ⟨cs, e1, e2⟩ := (h.below hb).at_ s
  exact ⟨cs, e1, cloned_any e2 (fun b hb2 => ((h.below hb).cont b hb2).2.1) (artOf_good hg s).1⟩
set_option linter.unusedSimpArgs false in
set_option maxRecDepth 20000 in
set_option maxHeartbeats 4000000 in
theorem articles_any (h : DictM w B a g mb hv gs S L f) (hg : GoodD gs L) (A : Option Addr) (n c : Nat) (hs : List ByteArray) (hr : ReadS w w.heap.size A n hs) (hn : n ≤ 100000) (hsz : ∀ s ∈ hs, s.size ≤ 64) :
    Calls Tryd.prog 26 #[wptr g, .slice A n c] w (ListPost w (hs.map (artOf L))) := by
  obtain ⟨i0, hi, hz0, hz1, hz2⟩ := info_parts (show (Tryd.prog.info? 35).map (fun i => (i.zero, i.size, i.bytes)) = some (some (.agg #[.string ⟨#[]⟩, .slice none 0 0, .slice none 0 0, .slice none 0 0]), 4, 88) by kernel_rfl)
  have hlook := fun W (hb : Below w.heap.size w W) s (hs2 : s.size ≤ 64) => (h.below hb).look1 s (by unfold maxLen; omega)
  have hcl := fun W (hb : Below w.heap.size w W) s => h.artAt hg s W hb
  have hcells := fun W (hb : Below w.heap.size w W) => (h.below hb).cells
  have HLK := Lib.hid hlook; have HC := Lib.hid hcl; have HCE := Lib.hid hcells; have HR := Lib.hid hr; have HL := Lib.hid hr.len; have HSZ := Lib.hid hsz
  clear h hg hlook hcl hcells hr hsz
  go_enter Tryd.func26, Tryd.ntmps26
  go_wp2
  go_loopw [5, 7, 10] (fun v _ i wr => ∃ k : Nat, ∃ xs, k ≤ n ∧ i = .int .i64 k ∧ GR ArtF 4 35 w wr ((hs.take k).map (artOf L)) v xs) (fun _ _ i _ => n - (RowKit.intOf i).toNat)
  case atStart => exact ⟨0, [], by omega, rfl, GR.start (Below.refl _ _)⟩
  case round =>
    obtain ⟨k, xs, hk, rfl, hgr⟩ := hrel
    have HGR := Lib.hid hgr
    have hb := hgr.ch
    clear hgr
    have HB := Lib.hid hb
    clear hb
    by_cases hlt : k < n
    · have hkl : k < hs.length := by rw [HL.out]; exact hlt
      have hkI : (k : Int) < (n : Int) := by omega
      obtain ⟨ad, rfl, had, hc⟩ := HR.out.at_ (k := k) hkl
      have hcw := (HB.out.cell (p := ad.add k) (by rw [block_of_add]; exact had)).trans hc
      have htk : (hs.take (k + 1)).map (artOf L) = (hs.take k).map (artOf L) ++ [artOf L hs[k]] := by rw [List.take_succ_eq_append_getElem hkl, List.map_append]; rfl
      have hlk := HLK.out wr HB.out hs[k] (HSZ.out _ (List.getElem_mem hkl))
      obtain ⟨cs, hav, hcall⟩ := HC.out wr HB.out hs[k]
      rw [hav] at hlk
      obtain ⟨z0, z1, z2⟩ := HCE.out wr HB.out
      have HTK := Lib.hid htk
      have hlen : ((hs.take k).map (artOf L)).length = k := by rw [List.length_map, List.length_take]; omega
      have HLEN := Lib.hid hlen
      generalize hs[k] = s at *
      clear hkl hc hav htk hlen
      go_wp2_with fail
      refine hcall.mono ?_
      rintro e w2 ⟨cs2, rfl, hx2, hb2⟩
      obtain ⟨A1, c1, A2, c2, A3, c3, rfl⟩ := hx2.form
      have hown2 := HGR.out.own2 hb2
      have hrn := reads_newk w2 35 [.string (artOf L s).head, .slice A1 (artOf L s).word.length c1, .slice A2 (artOf L s).texts.length c2, .slice A3 (artOf L s).see.length c3] 4 1 rfl
      rw [HLEN.out] at hown2
      have hsz2 := hb2.size
      have hsz1 := HB.out.size
      have H2 := Lib.hid hx2; have HB2 := Lib.hid hb2; have HO2 := Lib.hid hown2; have HRN := Lib.hid hrn
      clear hx2 hb2 hown2 hrn hcall hlk
      go_wp2_with (at_builtin; refine wpList_append_any _ rfl _ _ 23 rfl w.heap.size 35 i0 (.agg #[.string ⟨#[]⟩, .slice none 0 0, .slice none 0 0, .slice none 0 0]) 4 88 Tryd.underlying23 hi hz0 hz1 hz2 rfl (by decide) _ _ _ rfl (HO2.out.alloc _) _ _ _ _ [.string (artOf L s).head, .slice A1 (artOf L s).word.length c1, .slice A2 (artOf L s).texts.length c2, .slice A3 (artOf L s).see.length c3] rfl HRN.out (by intro u hu; simp only [List.mem_cons, List.not_mem_nil, or_false] at hu; rcases hu with rfl | rfl | rfl | rfl <;> rfl) (by unfold maxLen; omega) (by omega) (by simp; omega) ?_; intro v' w3 hown' hgrow hx'; have HN := Lib.hid (GR.next keepF_art HGR.out HB2.out H2.out (by rw [HLEN.out]; exact hown') hgrow hx'); clear hown' hgrow hx')
      go_roundw
      case rel => exact ⟨k + 1, _, by omega, by go_num, by rw [HTK.out]; exact HN.out⟩
      case measure => simp [RowKit.intOf]; omega
    · obtain rfl : k = n := by omega
      have hfin := HGR.out.fin keepF_art
      rw [List.take_of_length_le (by rw [HL.out]; exact Nat.le_refl _)] at hfin
      have HFIN := Lib.hid hfin
      clear hfin
      go_wp2
      go_ret
      exact ⟨_, rfl, HFIN.out, HB.out⟩
end
end Go.Proofs.YtgkpoopiamicnaaDoor
namespace Go.Proofs.YtgkpoopiamicnaaDoor
open Go.RowKit Go.Lib

theorem artOf_mem {gs : Grps} {L : List Art} (hg : GoodD gs L) {x : Art} (hx : x ∈ L) : artOf L x.head = x := by
  unfold artOf
  rw [getA_mem hg hx]; rfl
theorem heads_arts {gs : Grps} {L : List Art} (hg : GoodD gs L) : (headsL L).map (artOf L) = L := by
  unfold headsL
  rw [List.map_map]
  conv => rhs; rw [← List.map_id L]
  exact List.map_congr_left fun x hx => artOf_mem hg hx
theorem GoodD.hsize {gs : Grps} {L : List Art} (hg : GoodD gs L) : ∀ s ∈ headsL L, s.size ≤ 64 := fun s hs => by
  obtain ⟨x, hx, rfl⟩ := List.mem_map.1 hs
  exact (hg.arts x hx).size
def GivesT (w : World) (l : List ByteArray) (e : Ending) (w' : World) : Prop := ∃ v, e = .returned v ∧ w'.ownsRow w.heap.size 9 1 v l.length (l.map Value.string) ∧ Below w.heap.size w w'
section
variable {w : World} {B a g mb : Nat} {hv : Value} {gs : Grps} {S : Nat → Prop} {L : List Art} {f : ByteArray → Option Value}
theorem DictM.heads (h : DictM w B a g mb hv gs S L f) : ∃ A c, hv = .slice A L.length c ∧ L.length ≤ c ∧ c ≤ maxLen ∧ ReadS w w.heap.size A L.length (headsL L) := by
  obtain ⟨A, c, rfl, h1, h2⟩ := ownsRow_form h.own
  exact ⟨A, c, rfl, h1, h2, Reads.of_own h.own⟩
theorem list_any (h : DictM w B a g mb hv gs S L f) (hg : GoodD gs L) : Calls Tryd.prog 9 #[wptr g] w (ListPost w L) := by
  have hv1 := valid_any h
  obtain ⟨A, c, rfl, h1, h2, hr⟩ := h.heads
  have ha := articles_any h hg A L.length c (headsL L) hr (by have := hg.len; omega) hg.hsize
  rw [heads_arts hg] at ha
  obtain ⟨z0, z1, z2⟩ := h.cells
  clear h hg hr
  generalize L.length = n at *
  go_enter Tryd.func9, Tryd.ntmps9
  go_wp2_with fail
  refine hv1.mono ?_
  rintro e w1 ⟨rfl, rfl⟩
  go_wp2_with fail
  refine ha.mono ?_
  rintro e w1 ⟨v, rfl, hl, hb⟩
  go_wp2
  go_ret
  exact ⟨_, rfl, hl, hb⟩
theorem len_any (h : DictM w B a g mb hv gs S L f) : Calls Tryd.prog 15 #[wptr g] w fun e w' => e = .returned (.int .i64 L.length) ∧ w = w' := by
  have hv1 := valid_any h
  obtain ⟨A, c, rfl, h1, h2, hr⟩ := h.heads
  obtain ⟨z0, z1, z2⟩ := h.cells
  clear h hr
  generalize L.length = n at *
  go_enter Tryd.func15, Tryd.ntmps15
  go_wp2_with fail
  refine hv1.mono ?_
  rintro e w1 ⟨rfl, rfl⟩
  go_wp2
  go_ret
  exact ⟨rfl, rfl⟩
def GetPost (w : World) (x : Art) (b : Bool) (e : Ending) (w' : World) : Prop := ∃ cs, e = .returned (.tuple #[aggM cs, .bool b]) ∧ ArtF w' (NewS w w') x cs ∧ Below w.heap.size w w'
set_option linter.unusedSimpArgs false in
set_option maxRecDepth 20000 in
set_option maxHeartbeats 4000000 in
theorem get_any (h : DictM w B a g mb hv gs S L f) (hg : GoodD gs L) (s : ByteArray) (hs : s.size ≤ 140737488351232) :
    Calls Tryd.prog 17 #[wptr g, .string s] w (GetPost w (artOf L s) (thereB L s)) := by
  have hv1 := fun W (hb : Below w.heap.size w W) => valid_any (h.below hb)
  have hlk := fun W (hb : Below w.heap.size w W) => (h.below hb).look s (by unfold maxLen; omega)
  have hcl := fun W (hb : Below w.heap.size w W) => h.artAt hg s W hb
  have hce := fun W (hb : Below w.heap.size w W) => (h.below hb).cells
  obtain ⟨cs, hav, hcs⟩ := h.at_ s
  obtain ⟨A1, c1, A2, c2, A3, c3, rfl⟩ := hcs.form
  rw [hav] at hlk
  have hcl2 : ∀ W, Below w.heap.size w W → Calls Tryd.prog 35 #[aggM [.string (artOf L s).head, .slice A1 (artOf L s).word.length c1, .slice A2 (artOf L s).texts.length c2, .slice A3 (artOf L s).see.length c3]] W (ClonePost W (artOf L s)) := fun W hb => by
    obtain ⟨cs', e1, e2⟩ := hcl W hb
    rw [hav] at e1
    rw [e1]; exact e2
  have hb0 := (Below.refl w.heap.size w).alloc (Nat.le_refl _) (.cells #[.string ⟨#[]⟩, .slice none 0 0, .slice none 0 0, .slice none 0 0] 35)
  have hrb := Blk.new w 35 #[.string ⟨#[]⟩, .slice none 0 0, .slice none 0 0, .slice none 0 0]
  obtain ⟨W0, hW0⟩ : ∃ W, w.alloc (.cells #[.string ⟨#[]⟩, .slice none 0 0, .slice none 0 0, .slice none 0 0] 35) = W := ⟨_, rfl⟩
  rw [hW0] at hb0 hrb
  obtain ⟨b, hbw⟩ : ∃ b, w.heap.size = b := ⟨_, rfl⟩
  have hsz0 : W0.heap.size = b + 1 := by rw [← hW0, ← hbw]; simp
  have hx1 := Blk.new W0 35 #[.string (artOf L s).head, .slice A1 (artOf L s).word.length c1, .slice A2 (artOf L s).texts.length c2, .slice A3 (artOf L s).see.length c3]
  have hb1 := hb0.alloc hb0.size (.cells #[.string (artOf L s).head, .slice A1 (artOf L s).word.length c1, .slice A2 (artOf L s).texts.length c2, .slice A3 (artOf L s).see.length c3] 35)
  rw [hbw] at hrb
  have HV1 := Lib.hid (hv1 W0 hb0); have HLK := Lib.hid (hlk W0 hb0); have HCL := Lib.hid (hcl2 _ hb1); have HCE := Lib.hid (hce W0 hb0); have HB1 := Lib.hid hb1; have HRB := Lib.hid hrb; have HBW := Lib.hid hbw; have HX1 := Lib.hid hx1
  clear h hg hv1 hlk hcl hcl2 hce hav hcs hb0 hb1 hrb hx1
  generalize thereB L s = tb at *
  generalize artOf L s = x at *
  obtain ⟨hd, l1, l2, l3⟩ := x
  dsimp only at *
  go_enter Tryd.func17, Tryd.ntmps17
  go_upto_region 1 with fail
  clear hW0 hbw
  go_wp2_with fail
  refine HV1.out.mono ?_
  rintro e w1 ⟨rfl, rfl⟩
  obtain ⟨z0, z1, z2⟩ := HCE.out
  have hlk := HLK.out
  go_wp2_with fail
  refine HCL.out.mono ?_
  rintro e w2 ⟨cs2, rfl, hx2, hb2⟩
  obtain ⟨B1, d1, B2, d2, B3, d3, rfl⟩ := hx2.form
  have hrb2 := (HRB.out.alloc (.cells #[.string hd, .slice A1 l1.length c1, .slice A2 l2.length c2, .slice A3 l3.length c3] 35)).below hb2 (by simp; omega)
  have y0 := hrb2.cell 0; have y1 := hrb2.cell 1; have y2 := hrb2.cell 2; have y3 := hrb2.cell 3
  have e0 := hrb2.frozen 0; have e1 := hrb2.frozen 1; have e2 := hrb2.frozen 2; have e3 := hrb2.frozen 3
  simp only [List.getElem?_toArray, List.getElem?_cons_zero, List.getElem?_cons_succ] at y0 y1 y2 y3
  have hfb := (((hrb2.set_ 0 (.string hd)).set_ 1 (.slice B1 l1.length d1)).set_ 2 (.slice B2 l2.length d2)).set_ 3 (.slice B3 l3.length d3)
  simp only [List.setIfInBounds_toArray, List.set_cons_zero, List.set_cons_succ] at hfb
  have hch := ((((ChgS.refl (fun k => k = b) w2).setCell (p := ⟨b, 0, none⟩) (.inl rfl) (.string hd)).setCell (p := ⟨b, 1, none⟩) (.inl rfl) (.slice B1 l1.length d1)).setCell (p := ⟨b, 2, none⟩) (.inl rfl) (.slice B2 l2.length d2)).setCell (p := ⟨b, 3, none⟩) (.inl rfl) (.slice B3 l3.length d3)
  have q0 := hfb.cell 0; have q1 := hfb.cell 1; have q2 := hfb.cell 2; have q3 := hfb.cell 3
  simp only [List.getElem?_toArray, List.getElem?_cons_zero, List.getElem?_cons_succ] at q0 q1 q2 q3
  have hsz2 := hb2.size
  simp only [World.size_alloc] at hsz2
  have hbel : Below w.heap.size w _ := (HB1.out.trans (hb2.mono (by have := HBW.out; simp; omega))).trans (hch.below (B := w.heap.size) (fun k hk => by have := HBW.out; omega) (by have := HBW.out; omega))
  have hx3 := hx2.keep (S' := NewS w (((((w2.setCell ⟨b, 0, none⟩ (.string hd)).setCell ⟨b, 1, none⟩ (.slice B1 l1.length d1)).setCell ⟨b, 2, none⟩ (.slice B2 l2.length d2)).setCell ⟨b, 3, none⟩ (.slice B3 l3.length d3)))) (fun k hk => ⟨by have h1 := hk.1; have := HBW.out; simp only [World.size_alloc] at h1; omega, by have := hk.2; simpa [World.setCell] using this⟩) (keepS_chg hch (fun k hk => hk.2) (fun k hk e => by have h1 := hk.1; simp only [World.size_alloc] at h1; omega))
  have HX3 := Lib.hid hx3; have BEL := Lib.hid hbel; have Q0 := Lib.hid q0; have Q1 := Lib.hid q1; have Q2 := Lib.hid q2; have Q3 := Lib.hid q3
  clear hx2 hb2 hrb2 hfb hch hx3 hbel q0 q1 q2 q3
  go_wp2
  exact bodyPost_ret (v := .tuple #[aggM [.string hd, .slice B1 l1.length d1, .slice B2 l2.length d2, .slice B3 l3.length d3], .bool tb]) (by simp [results, Tryd.results17, go_sem, Q0.out, Q1.out, Q2.out, Q3.out]) rfl ⟨_, rfl, HX3.out, BEL.out⟩
set_option linter.unusedSimpArgs false in
set_option maxRecDepth 20000 in
set_option maxHeartbeats 4000000 in
/-- The heads of which a closure says yes. -/
theorem where_any (h : DictM w B a g mb hv gs S L f) (hg : GoodD gs L) (p : ByteArray → Bool) (k : FuncId) (cb : Array Value) (eg : ∀ args W, (callFunc k args).run Tryd.prog W = .ok (.enter k args) W)
    (hp : ∀ W x, Below w.heap.size w W → x ∈ headsL L → Calls Tryd.prog k (#[.string x] ++ cb) W fun e W' => e = .returned (.bool (p x)) ∧ Below W.heap.size W W') :
    Calls Tryd.prog 28 #[wptr g, .func (.func k) #[] cb] w (GivesT w ((headsL L).filter p)) := by
  obtain ⟨i0, hi, hz0, hz1, hz2⟩ := info_parts (show (Tryd.prog.info? 9).map (fun i => (i.zero, i.size, i.bytes)) = some (some (.string ByteArray.empty), 1, 16) by kernel_rfl)
  obtain ⟨A, c, rfl, h1, h2, hr⟩ := h.heads
  obtain ⟨z0, z1, z2⟩ := h.cells
  have hn := hg.len
  have HR := Lib.hid hr; have HL := Lib.hid (headsL_len (L := L)); have HP := Lib.hid hp
  clear h hg hr hp
  generalize L.length = n at *
  generalize headsL L = l at *
  go_enter Tryd.func28, Tryd.ntmps28
  go_wp2
  clear z0 z1 z2
  go_loopw [5, 7, 13] (fun v _ i wr => ∃ k : Nat, k ≤ n ∧ i = .int .i64 k ∧ wr.ownsRow w.heap.size 9 1 v ((l.take k).filter p).length (((l.take k).filter p).map Value.string) ∧ Below w.heap.size w wr) (fun _ _ i _ => n - (RowKit.intOf i).toNat)
  case atStart => exact ⟨0, by omega, rfl, by simpa using World.ownsRow_nil _ _ _ _, Below.refl _ _⟩
  case round =>
    obtain ⟨j, hj, rfl, hown, hb⟩ := hrel
    have HO := Lib.hid hown; have HB := Lib.hid hb
    clear hown hb
    by_cases hlt : j < n
    · have hjl : j < l.length := by rw [HL.out]; exact hlt
      have hjI : (j : Int) < (n : Int) := by omega
      obtain ⟨ad, rfl, had, hc⟩ := HR.out.at_ (k := j) hjl
      have hcw := (HB.out.cell (p := ad.add j) (by rw [block_of_add]; exact had)).trans hc
      have hcall := HP.out wr l[j] HB.out (List.getElem_mem hjl)
      have htk := List.take_succ_eq_append_getElem hjl
      have hlen : ((l.take j).filter p).length ≤ j := Nat.le_trans (List.length_filter_le _ _) (by rw [List.length_take]; omega)
      cases hpx : p l[j] with
      | true =>
        have hf : (l.take (j + 1)).filter p = (l.take j).filter p ++ [l[j]] := by rw [htk, List.filter_append]; simp [hpx]
        rw [hpx] at hcall
        have HF := Lib.hid hf
        generalize hm : ((l.take j).filter p).length = m at *
        have HM := Lib.hid hm
        generalize l[j] = y at *
        clear hjl hc hpx htk hf hm
        go_wp2_with fail
        refine hcall.mono ?_
        rintro e w2 ⟨rfl, hb2⟩
        have hown2 := own_below HO.out hb2
        have hsz2 := hb2.size
        have hsz1 := HB.out.size
        have HO2 := Lib.hid hown2; have HB2 := Lib.hid (HB.out.trans (hb2.mono HB.out.size))
        have HRN := Lib.hid (reads_new w2 9 [Value.string y])
        clear hown2 hb2 hcall
        go_wp2_with (at_builtin; refine wpList_append_any _ rfl _ _ 22 rfl w.heap.size 9 i0 (.string ByteArray.empty) 1 16 Tryd.underlying22 hi hz0 hz1 hz2 rfl (by decide) _ _ _ rfl (HO2.out.alloc _) _ _ _ _ [.string y] rfl HRN.out (by intro u hu; rw [List.mem_singleton] at hu; subst hu; rfl) (by unfold maxLen; omega) (by omega) (by simp; omega) ?_; intro v' w3 hown' hgrow hx'; have HN := Lib.hid hown'; have HB3 := Lib.hid ((HB2.out.alloc HB2.out.size (.cells #[.string y] 9)).grown hgrow (by have := HB2.out.size; simp; omega) (fun q hq => (HO2.out.lt q hq).1)); clear hown' hgrow hx')
        go_roundw
        case rel => exact ⟨j + 1, by omega, by go_num, by rw [HF.out, List.length_append, List.map_append, HM.out]; exact HN.out, HB3.out⟩
        case measure => simp [RowKit.intOf]; omega
      | false =>
        have hf : (l.take (j + 1)).filter p = (l.take j).filter p := by rw [htk, List.filter_append]; simp [hpx]
        rw [hpx] at hcall
        have HF := Lib.hid hf
        generalize l[j] = y at *
        clear hjl hc hpx htk hf
        go_wp2_with fail
        refine hcall.mono ?_
        rintro e w2 ⟨rfl, hb2⟩
        have HB2 := Lib.hid (HB.out.trans (hb2.mono HB.out.size)); have HO2 := Lib.hid (own_below HO.out hb2)
        clear hb2 hcall
        go_wp2
        go_roundw
        case rel => exact ⟨j + 1, by omega, by go_num, by rw [HF.out]; exact HO2.out, HB2.out⟩
        case measure => simp [RowKit.intOf]; omega
    · obtain rfl : j = n := by omega
      have ho := HO.out
      rw [List.take_of_length_le (by rw [HL.out]; exact Nat.le_refl _)] at ho
      have HO3 := Lib.hid ho
      clear ho
      go_wp2
      go_ret
      exact ⟨_, rfl, HO3.out, HB.out⟩
end
end Go.Proofs.YtgkpoopiamicnaaDoor
namespace Go.Proofs.YtgkpoopiamicnaaDoor
open Go.RowKit Go.Lib

def seeOf (L : List Art) (s : ByteArray) : List ByteArray := (artOf L s).see
/-- A head refers to another one, of which there is an article. -/
def RefD (L : List Art) (s t : ByteArray) : Prop := t ∈ seeOf L s ∧ thereB L t = true
inductive Reach (L : List Art) : ByteArray → ByteArray → Prop
  | one {s t : ByteArray} : RefD L s t → Reach L s t
  | more {s t u : ByteArray} : Reach L s t → RefD L t u → Reach L s u
theorem Reach.trans {L : List Art} {s t u : ByteArray} (h : Reach L s t) (k : Reach L t u) : Reach L s u := by
  induction k with
  | one h1 => exact .more h h1
  | more _ h1 ih => exact .more ih h1
theorem Reach.there {L : List Art} {s t : ByteArray} (h : Reach L s t) : thereB L t = true := by
  cases h with
  | one h => exact h.2
  | more _ h => exact h.2
noncomputable def reachB (L : List Art) (s t : ByteArray) : Bool := @decide (Reach L s t) (Classical.propDecidable _)
theorem reachB_iff {L : List Art} {s t : ByteArray} : reachB L s t = true ↔ Reach L s t := by
  unfold reachB
  exact @decide_eq_true_iff _ (Classical.propDecidable _)
/-- What following a head's references adds to what is marked. -/
structure FollowOk (L : List Art) (s : ByteArray) (M M' : ByteArray → Bool) : Prop where
  mono : ∀ t, M t = true → M' t = true
  reach : ∀ t, M' t = true → M t = true ∨ Reach L s t
  refs : ∀ t, RefD L s t → M' t = true
  closed : ∀ u, M' u = true → M u = false → ∀ t, RefD L u t → M' t = true
theorem follow_reach {L : List Art} {s : ByteArray} {M' : ByteArray → Bool} (h : FollowOk L s (fun _ => false) M') (t : ByteArray) : M' t = reachB L s t := by
  rw [Bool.eq_iff_iff, reachB_iff]
  constructor
  · intro ht
    rcases h.reach t ht with h1 | h1
    · cases h1
    · exact h1
  · intro hr
    induction hr with
    | one h1 => exact h.refs _ h1
    | more _ h1 ih => exact h.closed _ ih rfl _ h1
/-- The state of the loop over the first i references. -/
structure FollowAt (L : List Art) (s : ByteArray) (M Mi : ByteArray → Bool) (i : Nat) : Prop where
  mono : ∀ t, M t = true → Mi t = true
  reach : ∀ t, Mi t = true → M t = true ∨ Reach L s t
  refs : ∀ t, t ∈ (seeOf L s).take i → thereB L t = true → Mi t = true
  closed : ∀ u, Mi u = true → M u = false → ∀ t, RefD L u t → Mi t = true
def mark (M : ByteArray → Bool) (t : ByteArray) : ByteArray → Bool := fun u => decide (u = t) || M u
section
variable {L : List Art} {s t : ByteArray} {M Mi M2 : ByteArray → Bool} {i : Nat}
theorem FollowAt.start : FollowAt L s M M 0 := ⟨fun _ h => h, fun _ h => .inl h, by simp, fun u h1 h2 => by rw [h1] at h2; cases h2⟩
theorem FollowAt.fin (h : FollowAt L s M Mi (seeOf L s).length) : FollowOk L s M Mi :=
  ⟨h.mono, h.reach, fun t ht => h.refs t (by rw [List.take_length]; exact ht.1) ht.2, h.closed⟩
theorem FollowAt.skip (h : FollowAt L s M Mi i) (hi : i < (seeOf L s).length) (hm : thereB L (seeOf L s)[i] = true → Mi (seeOf L s)[i] = true) : FollowAt L s M Mi (i + 1) :=
  ⟨h.mono, h.reach, fun t ht hth => by
    rw [List.take_succ_eq_append_getElem hi, List.mem_append, List.mem_singleton] at ht
    rcases ht with ht | rfl
    · exact h.refs t ht hth
    · exact hm hth, h.closed⟩
theorem FollowAt.step (h : FollowAt L s M Mi i) (hi : i < (seeOf L s).length) (hth : thereB L (seeOf L s)[i] = true) (h2 : FollowOk L (seeOf L s)[i] (mark Mi (seeOf L s)[i]) M2) : FollowAt L s M M2 (i + 1) := by
  have hr : RefD L s (seeOf L s)[i] := ⟨List.getElem_mem hi, hth⟩
  have hmt : M2 (seeOf L s)[i] = true := h2.mono _ (by unfold mark; simp)
  have hm2 : ∀ u, Mi u = true → M2 u = true := fun u hu => h2.mono u (by unfold mark; rw [hu, Bool.or_true])
  refine ⟨fun u hu => hm2 u (h.mono u hu), fun u hu => ?_, fun u hu hut => ?_, fun u hu hnu v hv => ?_⟩
  · rcases h2.reach u hu with h3 | h3
    · unfold mark at h3
      rw [Bool.or_eq_true, decide_eq_true_iff] at h3
      rcases h3 with rfl | h3
      · exact .inr (.one hr)
      · exact h.reach u h3
    · exact .inr ((Reach.one hr).trans h3)
  · rw [List.take_succ_eq_append_getElem hi, List.mem_append, List.mem_singleton] at hu
    rcases hu with hu | rfl
    · exact hm2 u (h.refs u hu hut)
    · exact hmt
  · by_cases h1 : Mi u = true
    · exact hm2 v (h.closed u h1 hnu v hv)
    · by_cases e : u = (seeOf L s)[i]
      · subst e; exact h2.refs v hv
      · exact h2.closed u hu (by unfold mark; rw [decide_eq_false e]; simpa using h1) v hv
end
/-- How many heads are not marked. -/
def freeN (L : List Art) (M : ByteArray → Bool) : Nat := (headsL L).countP fun t => !M t
theorem freeN_le {L : List Art} {M Mi : ByteArray → Bool} (h : ∀ t, M t = true → Mi t = true) : freeN L Mi ≤ freeN L M :=
  List.countP_mono_left fun x _ hx => by
    cases hm : M x with
    | false => rfl
    | true => rw [h x hm] at hx; cases hx
theorem countP_lt {α : Type} {p q : α → Bool} : ∀ {l : List α} {x : α}, (∀ y, q y = true → p y = true) → x ∈ l → p x = true → q x = false → l.countP q < l.countP p
  | a :: l, x, h, hx, hp, hq => by
    have hle : l.countP q ≤ l.countP p := List.countP_mono_left fun y _ hy => h y hy
    rcases List.mem_cons.1 hx with rfl | hx
    · rw [List.countP_cons_of_pos hp, List.countP_cons_of_neg (by rw [hq]; decide)]
      omega
    · have ih := countP_lt h hx hp hq
      rw [List.countP_cons, List.countP_cons]
      by_cases h1 : q a = true
      · rw [if_pos h1, if_pos (h a h1)]; omega
      · rw [if_neg h1]; omega
theorem freeN_mark {L : List Art} {M : ByteArray → Bool} {t : ByteArray} (ht : thereB L t = true) (hm : M t = false) : freeN L (mark M t) < freeN L M := by
  unfold thereB at ht
  rw [memB_iff] at ht
  refine countP_lt (fun y hy => ?_) ht (by rw [hm]; rfl) (by unfold mark; simp)
  unfold mark at hy
  cases h : M y with
  | false => rfl
  | true => rw [h, Bool.or_true] at hy; cases hy
def markF (M : ByteArray → Bool) : ByteArray → Option Value := fun t => if M t = true then some (.bool true) else none
theorem markF_mark {M : ByteArray → Bool} {t : ByteArray} : (fun u => if u = t then some (.bool true) else markF M u) = markF (mark M t) := by
  funext u
  unfold markF mark
  by_cases e : u = t
  · rw [if_pos e, decide_eq_true e]; rfl
  · rw [if_neg e, decide_eq_false e]; rfl
theorem markF_get {M : ByteArray → Bool} {t : ByteArray} : (markF M t).getD (.bool false) = .bool (M t) := by
  unfold markF
  cases h : M t <;> rfl
theorem zero_boolV (w : World) : (zeroValue 4).run Tryd.prog w = .ok (.bool false) w := by kernel_rfl
end Go.Proofs.YtgkpoopiamicnaaDoor
namespace Go.Proofs.YtgkpoopiamicnaaDoor
open Go.RowKit Go.Lib

/-- The closure's variables: the dictionary, the map, itself. -/
structure FollowM (W : World) (g mo b2 b5 b6 n : Nat) (L : List Art) (M : ByteArray → Bool) : Prop where
  d : Blk W b2 24 #[wptr g]
  o : Blk W b5 62 #[.map (some mo)]
  f : Blk W b6 91 #[.func (.func 47) #[] #[wptr b2, wptr b5, wptr b6]]
  map : MapH W mo n (markF M)
  few : n + freeN L M ≤ 1024
theorem FollowM.chg {W W' : World} {g mo b2 b5 b6 n n' : Nat} {L : List Art} {M M' : ByteArray → Bool} (h : FollowM W g mo b2 b5 b6 n L M) (hc : ChgS (fun b => b = mo) W W') (hm : MapH W' mo n' (markF M')) (hf : n' + freeN L M' ≤ 1024) : FollowM W' g mo b2 b5 b6 n' L M' :=
  ⟨h.d.chgS hc (fun e => h.map.ne_blk h.d e.symm), h.o.chgS hc (fun e => h.map.ne_blk h.o e.symm), h.f.chgS hc (fun e => h.map.ne_blk h.f e.symm), hm, hf⟩
theorem FollowM.below {W W' : World} {g mo b2 b5 b6 n : Nat} {L : List Art} {M : ByteArray → Bool} (h : FollowM W g mo b2 b5 b6 n L M) (hb : Below W.heap.size W W') : FollowM W' g mo b2 b5 b6 n L M :=
  ⟨h.d.below hb h.d.lt, h.o.below hb h.o.lt, h.f.below hb h.f.lt, h.map.below hb, h.few⟩
def FollowPost (W : World) (g mo b2 b5 b6 : Nat) (L : List Art) (s : ByteArray) (M : ByteArray → Bool) (e : Ending) (W' : World) : Prop :=
  e = .returned (.tuple #[]) ∧ ∃ M' n', FollowOk L s M M' ∧ FollowM W' g mo b2 b5 b6 n' L M' ∧ ChgS (fun b => b = mo) W W'
section
variable {w : World} {B a g mb : Nat} {hv : Value} {gs : Grps} {S : Nat → Prop} {L : List Art} {f : ByteArray → Option Value}
theorem field_see (a b c d : Value) (w : World) : (Instr.field 35 (.agg #[a, b, c, d]) 3).run Tryd.prog w = .ok d w := by kernel_rfl
set_option linter.unusedSimpArgs false in
set_option maxRecDepth 20000 in
set_option maxHeartbeats 8000000 in
theorem follow_any (h : DictM w B a g mb hv gs S L f) (hg : GoodD gs L) (mo b2 b5 b6 : Nat) (hmo : w.heap.size ≤ mo) : ∀ (k : Nat) (W : World) (s : ByteArray) (M : ByteArray → Bool) (n : Nat), freeN L M ≤ k → s.size ≤ 140737488351232 → Below w.heap.size w W → FollowM W g mo b2 b5 b6 n L M →
    Calls Tryd.prog 47 #[.string s, wptr b2, wptr b5, wptr b6] W (FollowPost W g mo b2 b5 b6 L s M) := by
  intro k
  induction k using Nat.strongRecOn with
  | ind k ih =>
  intro W s M n hfr hs hbw hM
  have hlk1 := fun W (hb : Below w.heap.size w W) (s : ByteArray) (hs : s.size ≤ 140737488351232) => (h.below hb).look1 s (by unfold maxLen; omega)
  have hlk := fun W (hb : Below w.heap.size w W) (s : ByteArray) (hs : s.size ≤ 140737488351232) => (h.below hb).look s (by unfold maxLen; omega)
  have hce := fun W (hb : Below w.heap.size w W) => (h.below hb).cells
  obtain ⟨cs, hav, hcs⟩ := h.at_ s
  obtain ⟨A1, c1, A2, c2, A3, c3, rfl, -, -, hr3, -, -, q3⟩ := hcs.reads (fun b hb => (h.cont b hb).2.1)
  have hav2 := fun t => h.at_ t
  have hsz : ∀ t ∈ seeOf L s, t.size ≤ 140737488351232 := (artOf_good hg s).2.see
  have hfit := fun t (ht : thereB L t = true) (M : ByteArray → Bool) (hm : M t = false) => freeN_mark ht hm
  have hrs : ReadS w w.heap.size A3 (seeOf L s).length (seeOf L s) := hr3
  have e3 : (artOf L s).see.length = (seeOf L s).length := rfl
  rw [e3] at hav q3
  unfold maxLen at q3
  have hsee : (seeOf L s).length ≤ 100000 := (artOf_good hg s).1.see
  have HLK1 := Lib.hid hlk1; have HLK := Lib.hid hlk; have HCE := Lib.hid hce; have HAV := Lib.hid hav; have HAV2 := Lib.hid hav2; have HSZ := Lib.hid hsz; have HRS := Lib.hid hrs; have HBW := Lib.hid hbw; have HM := Lib.hid hM; have HIH := Lib.hid ih; have HFR := Lib.hid hfr; have HMO := Lib.hid hmo; have HFIT := Lib.hid hfit
  have hl1 := hlk1 W hbw s hs
  rw [hav] at hl1
  obtain ⟨z0, z1, z2⟩ := hce W hbw
  have d0 := hM.d.cell 0
  have hgl := h.lt
  simp only [List.getElem?_toArray, List.getElem?_cons_zero] at d0
  clear h hlk1 hlk hce hav hav2 hcs hr3 hsz hfit hrs e3 hbw hM ih hfr hmo
  generalize (artOf L s).head = h8 at *
  generalize (artOf L s).word.length = n8 at *
  generalize (artOf L s).texts.length = m8 at *
  go_enter Tryd.func47, Tryd.ntmps47
  dsimp only [aggM] at hl1
  have hfd := field_see (.string h8) (.slice A1 n8 c1) (.slice A2 m8 c2) (.slice A3 (seeOf L s).length c3)
  go_wp2
  clear z0 z1 z2 d0 hl1 hfd
  go_loopw [6, 7, 8, 17] (fun _ _ _ i wr => ∃ (j : Nat) (Mi : ByteArray → Bool) (m : Nat), j ≤ (seeOf L s).length ∧ i = .int .i64 j ∧ FollowAt L s M Mi j ∧ FollowM wr g mo b2 b5 b6 m L Mi ∧ ChgS (fun b => b = mo) W wr) (fun _ _ _ i _ => (seeOf L s).length - (RowKit.intOf i).toNat)
  case atStart => exact ⟨0, M, n, by omega, rfl, FollowAt.start, HM.out, ChgS.refl _ _⟩
  case round =>
    obtain ⟨j, Mi, m, hj, rfl, hat, hfm, hch⟩ := hrel
    have HAT := Lib.hid hat; have HFM := Lib.hid hfm; have HCH := Lib.hid hch
    have hbr : Below w.heap.size w wr := HBW.out.trans (hch.below (fun b hb => by rw [hb]; exact HMO.out) HBW.out.size)
    have HBR := Lib.hid hbr
    clear hat hfm hch hbr
    by_cases hlt : j < (seeOf L s).length
    · have hjI : (j : Int) < ((seeOf L s).length : Int) := by omega
      obtain ⟨ad, rfl, had, hc⟩ := HRS.out.at_ (k := j) hlt
      have hcw := (HBR.out.cell (p := ad.add j) (by rw [block_of_add]; exact had)).trans hc
      have hts : ((seeOf L s)[j]).size ≤ 140737488351232 := HSZ.out _ (List.getElem_mem hlt)
      obtain ⟨t, htd⟩ : ∃ t, (seeOf L s)[j] = t := ⟨_, rfl⟩
      rw [htd] at hts hcw
      obtain ⟨z0, z1, z2⟩ := HCE.out wr HBR.out
      have d0 := HFM.out.d.cell 0
      simp only [List.getElem?_toArray, List.getElem?_cons_zero] at d0
      have hlk := HLK.out wr HBR.out t hts
      obtain ⟨cs2, hav2, hcs2⟩ := HAV2.out t
      obtain ⟨B1, e1, B2, e2, B3, e3, rfl⟩ := hcs2.form
      rw [hav2] at hlk
      dsimp only [aggM] at hlk
      clear hav2 hcs2
      obtain ⟨W1, hW1⟩ : ∃ W1, wr.alloc (.cells #[.string (artOf L t).head, .slice B1 (artOf L t).word.length e1, .slice B2 (artOf L t).texts.length e2, .slice B3 (artOf L t).see.length e3] 35) = W1 := ⟨_, rfl⟩
      have hb1 : Below wr.heap.size wr W1 := hW1 ▸ (Below.refl _ _).alloc (Nat.le_refl _) _
      have hfm1 : FollowM W1 g mo b2 b5 b6 m L Mi := HFM.out.below hb1
      have hch1 : ChgS (fun b => b = mo) W W1 := HCH.out.trans (ChgS.of_below hb1)
      have hbr1 : Below w.heap.size w W1 := HBR.out.trans (hb1.mono HBR.out.size)
      have hlm := hfm1.map.look1 (T := 62) (E := 4) Tryd.underlying62 (zero_boolV _) t (by unfold maxLen; omega)
      rw [markF_get] at hlm
      have o0 := hfm1.o.cell 0; have f0 := hfm1.f.cell 0
      simp only [List.getElem?_toArray, List.getElem?_cons_zero] at o0 f0
      have HB1 := Lib.hid hb1; have HFM1 := Lib.hid hfm1; have HCH1 := Lib.hid hch1; have HBR1 := Lib.hid hbr1
      clear hb1 hfm1 hch1 hbr1
      generalize (artOf L t).head = h7 at *
      generalize (artOf L t).word.length = n7 at *
      generalize (artOf L t).texts.length = m7 at *
      generalize (artOf L t).see.length = k7 at *
      cases htb : thereB L t with
      | false =>
        rw [htb] at hlk
        go_wp2
        go_roundw
        case rel => exact ⟨j + 1, Mi, m, hlt, by go_num, HAT.out.skip hlt (fun h => by rw [htd, htb] at h; cases h), HFM1.out, HCH1.out⟩
        case measure => simp [RowKit.intOf]; omega
      | true =>
        rw [htb] at hlk
        cases hmt : Mi t with
        | true =>
          rw [hmt] at hlm
          go_wp2
          go_roundw
          case rel => exact ⟨j + 1, Mi, m, hlt, by go_num, HAT.out.skip hlt (fun _ => by rw [htd]; exact hmt), HFM1.out, HCH1.out⟩
          case measure => simp [RowKit.intOf]; omega
        | false =>
          rw [hmt] at hlm
          go_upto_region 5 with fail
          clear hlk hlm z0 z1 z2 d0 hcw hc HAV
          have hnone : markF Mi t = none := by unfold markF; rw [hmt]; rfl
          have hfew := HFM1.out.few
          have hless := HFIT.out t htb Mi hmt
          go_wp2_with (refine wpList_putH rfl 62 4 (.tmp 37) (.tmp 38) (.const (.bool true)) rfl Tryd.underlying62 mo m (markF Mi) rfl HFM1.out.map (by unfold maxLen; omega) t (by unfold maxLen; omega) (.bool true) rfl rfl ?_; intro W2 hm2 hg2; have hm3 := (hm2.congr fun u => congrFun (markF_mark (M := Mi) (t := t)) u); rw [hnone] at hm3; simp only [Option.isSome_none, Bool.false_eq_true, ↓reduceIte] at hm3; have hc2 : ChgS (fun b => b = mo) W1 W2 := (ChgS.refl _ W1).grown hg2 (fun k hk => (by injection hk with hk; exact .inl hk.symm)); have hfm2 := HFM1.out.chg hc2 hm3 (by omega); have f2 := hfm2.f.cell 0; simp only [List.getElem?_toArray, List.getElem?_cons_zero] at f2; have HFM2 := Lib.hid hfm2; have HC2 := Lib.hid hc2; clear hm2 hm3 hfm2 hc2 hg2)
          have hbr2 : Below w.heap.size w W2 := HBR1.out.trans (HC2.out.below (fun b hb => by rw [hb]; exact HMO.out) HBR1.out.size)
          refine (HIH.out (freeN L (mark Mi t)) (by have := freeN_le (L := L) HAT.out.mono; have := HFR.out; omega) W2 t (mark Mi t) (m + 1) (Nat.le_refl _) hts hbr2 HFM2.out).mono ?_
          rintro e W3 ⟨rfl, M3, m3, hok3, hfm3, hch3⟩
          have HOK3 := Lib.hid hok3; have HFM3 := Lib.hid hfm3; have HCH3 := Lib.hid ((HCH1.out.trans HC2.out).trans hch3)
          clear hok3 hfm3 hch3
          go_wp2
          go_roundw
          case rel => exact ⟨j + 1, M3, m3, hlt, by go_num, HAT.out.step hlt (by rw [htd]; exact htb) (by rw [htd]; exact HOK3.out), HFM3.out, HCH3.out⟩
          case measure => simp [RowKit.intOf]; omega
    · obtain rfl : j = (seeOf L s).length := by omega
      go_wp2
      go_end0
      exact ⟨rfl, Mi, m, HAT.out.fin, HFM.out, HCH.out⟩
end
end Go.Proofs.YtgkpoopiamicnaaDoor
