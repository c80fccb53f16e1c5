/-
  Layer 40: Remove: the walk. Conditions: a dictionary in memory, a text of the reach.
-/
import Derived.Test.YtgkpoopiamicnaaGreatDoorZbas
namespace Go.Proofs.YtgkpoopiamicnaaGreatDoor
open Go.RowKit Go.Lib

/-! slices.Delete of one element. -/
theorem delete_row {w : World} {base n i : Nat} {v : Value} {l : List ByteArray} (h : w.ownsRow base 9 1 v n (l.map Value.string)) (hn : n ≤ 100000) (hi : i < n) :
    Calls Tryz.prog 65 #[v, .int .i64 i, .int .i64 ((i + 1 : Nat) : Int)] w fun e w' => ∃ v', e = .returned v' ∧ w'.ownsRow base 9 1 v' (n - 1) ((l.take i ++ l.drop (i + 1)).map Value.string) ∧ v'.ownBlock = v.ownBlock ∧ w.grownBy w' v.ownBlock := by
  have hl : l.length = n := by simpa using h.1
  rcases h.2 with ⟨rfl, hz⟩ | ⟨gb, cap, cur, rfl, hbase, hgb, r1, r2, r3, r4⟩
  · omega
  · subst hl
    have hH : Go.Sort.Holds encStr w gb 0 (l.map bl).toArray := holds_of_block hgb (by rw [List.length_map, enc_bl]; simpa using r4)
    have hc := Tryz.slices_Delete_string gb 0 cap i (i + 1) (l.map bl) w hH (by rw [List.length_map]; omega) (by unfold maxLen at r2; omega) (by omega) (by rw [List.length_map]; omega)
    rw [List.length_map, show i + 1 - i = 1 by omega] at hc
    refine hc.mono ?_
    rintro e w' ⟨rfl, nn, rfl⟩
    have ht : ((l.map bl).take i ++ (l.map bl).drop (i + 1) ++ List.replicate 1 []) = (l.take i ++ l.drop (i + 1)).map bl ++ [[]] := by
      rw [← List.map_take, ← List.map_drop, ← List.map_append]; rfl
    rw [ht]
    have hll : ((l.take i ++ l.drop (i + 1)).map bl ++ [[]]).length = l.length := by simp; omega
    have hlh : (l.take i ++ l.drop (i + 1)).length = l.length - 1 := by simp; omega
    have ho := ownsRow_sorted (ss := l.map bl) (ts := (l.take i ++ l.drop (i + 1)).map bl ++ [[]]) (os := #[]) (n := nn) (by rw [hll, List.length_map]) hbase hgb (by simpa using r1) r2 r3
    have hg := grownBy_sorted (w := w) (g := gb) (n := nn) (os := #[]) ((l.take i ++ l.drop (i + 1)).map bl ++ [[]]).toArray
    rw [show ∀ W : World, Go.Sort.grow W #[] = W from fun W => by unfold Go.Sort.grow; simp] at ho hg
    refine ⟨_, rfl, ?_, rfl, hg⟩
    rcases ho.2 with ⟨e, -⟩ | ⟨g2, cap2, cur2, e, q1, q2, q3, q4, q5, q6⟩
    · cases e
    · injection e with e1 e2 e3
      injection e1 with e1
      injection e1 with e1
      subst e1 e3
      rw [List.length_map] at q6
      refine ⟨by rw [List.length_map, hlh, Nat.mul_one], .inr ⟨_, _, cur2, rfl, q1, q2, by omega, q4, q5, ?_⟩⟩
      have h7 : cur2.toList.take ((l.length - 1) * 1) = (cur2.toList.take (l.length * 1)).take ((l.length - 1) * 1) := by rw [List.take_take, Nat.min_eq_left (by omega)]
      rw [h7, q6, List.map_append, enc_bl, List.take_append_of_le_length (by rw [List.length_map, hlh]; omega), List.take_of_length_le (by rw [List.length_map, hlh]; omega)]
/-! The heads without one. -/
theorem filter_out {s : ByteArray} : ∀ {l : List ByteArray} {i : Nat} (hi : i < l.length), l.Nodup → l[i] = s → l.filter (fun y => !decide (y = s)) = l.take i ++ l.drop (i + 1)
  | a :: l, 0, _, hn, e => by
    have e : a = s := e
    subst e
    rw [List.nodup_cons] at hn
    rw [List.filter_cons_of_neg (by simp)]
    show _ = [] ++ l
    rw [List.nil_append, List.filter_eq_self]
    intro y hy
    have : y ≠ a := fun e => hn.1 (e ▸ hy)
    simp [this]
  | a :: l, i + 1, hi, hn, e => by
    rw [List.nodup_cons] at hn
    have e : l[i]'(Nat.lt_of_succ_lt_succ hi) = s := e
    have hne : a ≠ s := fun h => hn.1 (by rw [h, ← e]; exact List.getElem_mem _)
    rw [List.filter_cons_of_pos (by simp [hne]), filter_out (Nat.lt_of_succ_lt_succ hi) hn.2 e]
    rfl
theorem del_heads {gs : Grps} {L : List Art} {s : ByteArray} (hg : GoodD gs L) (h : thereB L s = true) :
    ∃ i, i < L.length ∧ idxV s (headsL L) = i ∧ headsL (delA s L) = (headsL L).take i ++ (headsL L).drop (i + 1) ∧ (delA s L).length = L.length - 1 := by
  have hm := idxV_mem (x := s) (l := headsL L)
  unfold thereB at h
  rw [h, decide_eq_true_iff] at hm
  unfold idxV at hm ⊢
  cases hi : idxT s (headsL L) with
  | none => rw [hi] at hm; exact absurd hm (by decide)
  | some i =>
    unfold idxT at hi
    rw [List.findIdx?_eq_some_iff_getElem] at hi
    obtain ⟨h1, h2, -⟩ := hi
    rw [decide_eq_true_iff] at h2
    have e := filter_out h1 hg.nodup h2
    rw [← delA_heads] at e
    have hl : L.length = (headsL L).length := headsL_len.symm
    refine ⟨i, by rw [hl]; exact h1, rfl, e, ?_⟩
    rw [← headsL_len (L := delA s L), e, List.length_append, List.length_take, List.length_drop, hl]
    omega
theorem thereB_del {L : List Art} {s t : ByteArray} : thereB (delA s L) t = (thereB L t && !decide (t = s)) := by
  rw [Bool.eq_iff_iff, Bool.and_eq_true, thereB_iff, thereB_iff]
  unfold delA
  constructor
  · rintro ⟨y, hy, rfl⟩
    obtain ⟨h1, h2⟩ := List.mem_filter.1 hy
    exact ⟨⟨y, h1, rfl⟩, h2⟩
  · rintro ⟨⟨y, hy, rfl⟩, h⟩
    exact ⟨y, List.mem_filter.2 ⟨hy, h⟩, rfl⟩
section
variable {w w1 w2 w4 : World} {B a g mb : Nat} {hv v' : Value} {gs : Grps} {S : Nat → Prop} {L : List Art} {f : ByteArray → Option Value} {s : ByteArray}
theorem DictM.del_ (h : DictM w B a g mb hv gs S L f) (hth : thereB L s = true) (hb1 : Below w.heap.size w w1)
    (hm2 : MapH w2 mb (L.length - if (f s).isSome then 1 else 0) (fun t => if t = s then none else f t)) (hg2 : w1.grownBy w2 (some mb))
    (ho : w4.ownsRow B 9 1 v' (L.length - 1) ((headsL (delA s L)).map Value.string)) (hvb : v'.ownBlock = hv.ownBlock) (hg4 : w2.grownBy w4 hv.ownBlock) (hlen : (delA s L).length = L.length - 1) :
    DictM (w4.setCell ⟨g, 2, none⟩ v') B a g mb v' gs S (delA s L) (fun t => if t = s then none else f t) ∧ ChgS (Turn g mb hv) w (w4.setCell ⟨g, 2, none⟩ v') := by
  have hgmb : mb ≠ g := h.map.ne_blk h.blk
  have hghv : hv.ownBlock ≠ some g := own_blk_ne h.own h.blk (by decide)
  have hmhv : hv.ownBlock ≠ some mb := h.map.ne_own h.own
  have hhvB : ∀ b, hv.ownBlock = some b → B ≤ b := fun b hb => (h.own.lt b hb).1
  have hTB : ∀ b, Turn g mb hv b → B ≤ b := fun b hb => by
    rcases hb with rfl | rfl | hb
    · exact h.low.2.1
    · exact h.low.2.2
    · exact hhvB b hb
  have hc1 : ChgS (Turn g mb hv) w w1 := .of_below hb1
  have hc2 : ChgS (Turn g mb hv) w w2 := hc1.grown hg2 (fun k hk => by injection hk with hk; exact .inl (.inr (.inl hk.symm)))
  have hc4 : ChgS (Turn g mb hv) w w4 := hc2.grown hg4 (fun k hk => .inl (.inr (.inr hk)))
  have hcf : ChgS (Turn g mb hv) w (w4.setCell ⟨g, 2, none⟩ v') := hc4.setCell (p := ⟨g, 2, none⟩) (.inl (.inl rfl)) v'
  have hset : ChgS (fun b => b = g) w4 (w4.setCell ⟨g, 2, none⟩ v') := (ChgS.refl (fun b => b = g) w4).setCell (p := ⟨g, 2, none⟩) (.inl rfl) _
  refine ⟨⟨?_, fun w3 hb3 => h.alph w3 ((hcf.below hTB h.low.1).trans hb3), h.good, ?_, ?_, fun t => ?_, fun y hy => ?_, ⟨Nat.le_trans h.low.1 hcf.size, h.low.2⟩, fun b hb => ?_⟩, hcf⟩
  · have h4 := ((h.blk.below hb1 h.lt).grown hg2 (fun e => by injection e with e; exact hgmb e.symm)).grown hg4 (fun e => hghv e.symm)
    have h6 := h4.set_ 2 v'
    simp only [List.setIfInBounds_toArray, List.set_cons_zero, List.set_cons_succ] at h6
    exact h6
  · have hf : (f s).isSome = true := by rw [h.dom, hth]
    rw [hf, if_pos rfl] at hm2
    rw [hlen]
    exact (hm2.kept hg4 (fun e => hmhv e.symm)).chgS hset hgmb
  · rw [hlen]
    exact own_chgS ho hset (fun k hk e => hghv (by rw [← hvb, hk, e]))
  · rw [thereB_del]
    by_cases e : t = s
    · subst e; simp
    · rw [if_neg e, h.dom t]; simp [e]
  · obtain ⟨h1, h2⟩ := List.mem_filter.1 hy
    have hne : y.head ≠ s := by simpa using h2
    obtain ⟨cs, e1, e2⟩ := h.val y h1
    refine ⟨cs, by rw [if_neg hne]; exact e1, e2.keep (fun _ h => h) (keepS_chg hcf (fun b hb => (h.cont b hb).2.1) (fun b hb ht => ?_))⟩
    obtain ⟨_, _, c3, c4, c5⟩ := h.cont b hb
    rcases ht with e | e | e
    · exact c3 e
    · exact c4 e
    · exact c5 e
  · obtain ⟨c1, c2, c3, c4, c5⟩ := h.cont b hb
    exact ⟨c1, Nat.lt_of_lt_of_le c2 hcf.size, c3, c4, by rw [hvb]; exact c5⟩
end
/-- What Remove ends in. -/
def RemPost (w : World) (B a g mb : Nat) (hv : Value) (gs : Grps) (S : Nat → Prop) (L : List Art) (s : ByteArray) (e : Ending) (w' : World) : Prop :=
  e = .returned (.int .i64 (if thereB L s = true then 0 else 5)) ∧ (thereB L s = false → Below w.heap.size w w') ∧
    (thereB L s = true → ∃ v' f', DictM w' B a g mb v' gs S (delA s L) f' ∧ v'.ownBlock = hv.ownBlock ∧ ChgS (Turn g mb hv) w w')
section
variable {w : World} {B a g mb : Nat} {hv : Value} {gs : Grps} {S : Nat → Prop} {L : List Art} {f : ByteArray → Option Value}
set_option linter.unusedSimpArgs false in
set_option maxRecDepth 20000 in
set_option maxHeartbeats 4000000 in
theorem remove_any (h : DictM w B a g mb hv gs S L f) (hg : GoodD gs L) (s : ByteArray) (hs : s.size ≤ 140737488351232) :
    Calls Tryz.prog 22 #[wptr g, .string s] w (RemPost w B a g mb hv gs S L s) := by
  have hv1 := valid_any h
  have hlk := h.look s (by unfold maxLen; omega)
  obtain ⟨cs, hav, hcs⟩ := h.at_ s
  obtain ⟨A1, c1, A2, c2, A3, c3, rfl⟩ := hcs.form
  rw [hav] at hlk
  dsimp only [aggM] at hlk
  obtain ⟨z0, z1, z2⟩ := h.cells
  have H := Lib.hid h; have HG := Lib.hid hg
  have hgmb : mb ≠ g := h.map.ne_blk h.blk
  have hghv : hv.ownBlock ≠ some g := own_blk_ne h.own h.blk (by decide)
  have hmhv : hv.ownBlock ≠ some mb := h.map.ne_own h.own
  have HNE := Lib.hid (And.intro hgmb (And.intro hghv hmhv))
  have hlen := hg.len
  have hpost : ∀ e w', RemPost w B a g mb hv gs S L s e w' = (e = .returned (.int .i64 (if thereB L s = true then 0 else 5)) ∧ (thereB L s = false → Below w.heap.size w w') ∧ (thereB L s = true → ∃ v' f', DictM w' B a g mb v' gs S (delA s L) f' ∧ v'.ownBlock = hv.ownBlock ∧ ChgS (Turn g mb hv) w w')) := fun _ _ => rfl
  have HP := Lib.hid hpost
  clear h hg hav hcs hgmb hghv hmhv hpost
  generalize (artOf L s).head = x1 at *
  generalize (artOf L s).word.length = x2 at *
  generalize (artOf L s).texts.length = x3 at *
  generalize (artOf L s).see.length = x4 at *
  have hb1 : Below w.heap.size w (w.alloc (.cells #[.string x1, .slice A1 x2 c1, .slice A2 x3 c2, .slice A3 x4 c3] 42)) := (Below.refl _ _).alloc (Nat.le_refl _) _
  have HB1 := Lib.hid hb1
  clear hb1
  cases htb : thereB L s with
  | false =>
    rw [htb] at hlk
    have HTB := Lib.hid htb
    clear htb
    go_enter Tryz.func22, Tryz.ntmps22
    go_wp2_with fail
    refine hv1.mono ?_
    rintro e w1 ⟨rfl, rfl⟩
    go_wp2
    go_ret
    show RemPost w B a g mb hv gs S L s _ _
    rw [HP.out, HTB.out]
    exact ⟨rfl, fun _ => HB1.out, (fun h => by cases h)⟩
  | true =>
    rw [htb] at hlk
    obtain ⟨i, hil, hix, hhe, hdl⟩ := del_heads HG.out htb
    have hd := HB1.out
    have hd1 := H.out.below HB1.out
    have hm1 := hd1.map
    have HM1 := Lib.hid hm1
    have HTB := Lib.hid htb; have HIX := Lib.hid hix; have HHE := Lib.hid hhe; have HDL := Lib.hid hdl; have HD1 := Lib.hid hd1
    obtain ⟨y0, y1, y2⟩ := hd1.cells
    have hsm : s.size ≤ maxLen := by unfold maxLen; omega
    have HSM := Lib.hid hsm
    clear htb hix hhe hdl hd hd1 hm1 hsm
    go_enter Tryz.func22, Tryz.ntmps22
    go_wp2_with fail
    refine hv1.mono ?_
    rintro e w1 ⟨rfl, rfl⟩
    clear hv1
    go_upto_region 7 with (refine wpList_delH rfl 76 42 (.tmp 25) (.tmp 26) rfl Tryz.underlying76 mb L.length f rfl HM1.out s HSM.out rfl ?_; intro w2 hm2 hg2; have HM2 := Lib.hid hm2; have HG2 := Lib.hid hg2; clear hm2 hg2)
    obtain ⟨hgmb, hghv, hmhv⟩ := HNE.out
    have ho1 := HD1.out.own
    have ho2 := ho1.kept HG2.out (.inr hmhv)
    have hbl2 : Blk w2 g 78 #[.pointer (some ⟨a, 0, none⟩), .map (some mb), hv] := HD1.out.blk.grown HG2.out (fun e => by injection e with e; exact hgmb e.symm)
    obtain ⟨AH, cH, eH, hcH1, hcH2⟩ := ownsRow_form ho2
    have hrd : ReadS w2 w2.heap.size AH L.length (headsL L) := show ReadS _ _ _ _ _ from by rw [eH] at ho2; exact Reads.of_own ho2
    have hid := indexT_any AH L.length cH w2.heap.size (headsL L) s w2 hrd (by unfold maxLen; omega)
    rw [HIX.out, ← eH] at hid
    have hde := delete_row ho2 (by omega) hil
    rw [← HHE.out] at hde
    have x2c : w2.cell? ⟨g, 2, none⟩ = some hv := hbl2.cell 2
    have HID := Lib.hid hid; have HDE := Lib.hid hde; have HBL2 := Lib.hid hbl2
    clear ho1 ho2 hbl2 hrd hid hde eH hcH1 hcH2 hgmb hghv hmhv
    go_wp2_with fail
    refine HID.out.mono ?_
    rintro e w3 ⟨rfl, rfl⟩
    have hde := HDE.out
    have hiI : (i : Int) + 1 ≤ 100000 := by omega
    go_wp2_with fail
    refine hde.mono ?_
    rintro e w4 ⟨v', rfl, ho4, hvb, hg4⟩
    obtain ⟨A4, c4, rfl, -, -⟩ := ownsRow_form ho4
    obtain ⟨hgmb, hghv, hmhv⟩ := HNE.out
    have hbl4 := HBL2.out.grown hg4 (fun e => hghv e.symm)
    have k0 := hbl4.cell 2; have k1 := hbl4.frozen 2
    simp only [List.getElem?_toArray, List.getElem?_cons_zero, List.getElem?_cons_succ] at k0
    have hfin := H.out.del_ HTB.out HB1.out HM2.out HG2.out ho4 hvb hg4 HDL.out
    have HF := Lib.hid hfin; have HVB := Lib.hid hvb
    clear ho4 hvb hg4 hgmb hghv hmhv hbl4 hfin hde hiI x2c y0 y1 y2 z0 z1 z2 hlk hil hlen
    go_wp2
    go_ret
    show RemPost w B a g mb hv gs S L s _ _
    rw [HP.out, HTB.out]
    exact ⟨rfl, (fun h => by cases h), fun _ => ⟨_, _, HF.out.1, HVB.out, HF.out.2⟩⟩
end
end Go.Proofs.YtgkpoopiamicnaaGreatDoor
