/-
  Layer 40: Put. Conditions: an article that is read, its texts of the reach.
-/
import Derived.Test.YtgkpoopiamicnaaDoorZaak
namespace Go.Proofs.YtgkpoopiamicnaaDoor
open Go.RowKit Go.Lib

theorem thereB_ins {gs : Grps} {x : Art} {L : List Art} {s : ByteArray} : thereB (insA gs x L) s = (decide (s = x.head) || thereB L s) := by
  rw [Bool.eq_iff_iff, Bool.or_eq_true, decide_eq_true_iff, thereB_iff, thereB_iff]
  constructor
  · rintro ⟨y, hy, e⟩
    rcases insA_mem.1 hy with rfl | hy
    · exact .inl e.symm
    · exact .inr ⟨y, hy, e⟩
  · rintro (e | ⟨y, hy, e⟩)
    · exact ⟨x, insA_mem.2 (.inl rfl), e.symm⟩
    · exact ⟨y, insA_mem.2 (.inr hy), e⟩
section
variable {w w3 w5 w8 w9 : World} {B a g mb : Nat} {hv hv' : Value} {gs : Grps} {S S9 : Nat → Prop} {L : List Art} {f : ByteArray → Option Value} {x : Art} {cs' : List Value}
/-- The blocks that Put may turn. -/
abbrev Turn (g mb : Nat) (hv : Value) : Nat → Prop := fun b => b = g ∨ b = mb ∨ hv.ownBlock = some b
theorem DictM.put_ (h : DictM w3 B a g mb hv gs S L f) (hc5 : ChgS (fun b => hv.ownBlock = some b) w3 w5) (ho : w5.ownsRow B 9 1 hv' (insA gs x L).length ((headsL (insA gs x L)).map Value.string))
    (hvb : hv'.ownBlock = hv.ownBlock ∨ ∃ b, hv'.ownBlock = some b ∧ w3.heap.size ≤ b) (hb8 : Below w5.heap.size (w5.setCell ⟨g, 2, none⟩ hv') w8) (hx : ArtF w8 S9 x cs') (hS9 : ∀ b, S9 b → w5.heap.size ≤ b ∧ b < w8.heap.size)
    (hm : MapH w9 mb (if (f x.head).isSome then L.length else L.length + 1) (fun t => if t = x.head then some (aggM cs') else f t)) (hg9 : w8.grownBy w9 (some mb)) (hth : thereB L x.head = false) :
    DictM w9 B a g mb hv' gs (fun b => S b ∨ S9 b) (insA gs x L) (fun t => if t = x.head then some (aggM cs') else f t) ∧ ChgS (Turn g mb hv) w3 w9 := by
  have hgmb : mb ≠ g := h.map.ne_blk h.blk
  have hghv : hv.ownBlock ≠ some g := own_blk_ne h.own h.blk (by decide)
  have hmhv : hv.ownBlock ≠ some mb := h.map.ne_own h.own
  have hglt := h.blk.lt
  have hmlt := h.map.lt
  have hs5 := hc5.size
  have hs8 := hb8.size
  have hs6 : (w5.setCell ⟨g, 2, none⟩ hv').heap.size = w5.heap.size := by simp [World.setCell]
  rw [hs6] at hs8
  have hc6 : ChgS (Turn g mb hv) w3 (w5.setCell ⟨g, 2, none⟩ hv') := (hc5.mono fun k _ hk => .inr (.inr hk)).setCell (p := ⟨g, 2, none⟩) (.inl (.inl rfl)) hv'
  have hb8' : Below (w5.setCell ⟨g, 2, none⟩ hv').heap.size (w5.setCell ⟨g, 2, none⟩ hv') w8 := by rw [hs6]; exact hb8
  have hc8 : ChgS (Turn g mb hv) w3 w8 := hc6.new (T := fun _ => False) (.of_below hb8') (fun _ _ h => h.elim)
  have hc9 : ChgS (Turn g mb hv) w3 w9 := hc8.grown hg9 (fun k hk => by injection hk with hk; exact .inl (.inr (.inl hk.symm)))
  have hhvB : ∀ b, hv.ownBlock = some b → B ≤ b := fun b hb => (h.own.lt b hb).1
  have hTB : ∀ b, Turn g mb hv b → B ≤ b := fun b hb => by
    rcases hb with rfl | rfl | hb
    · exact h.low.2.1
    · exact h.low.2.2
    · exact hhvB b hb
  have hvg : hv'.ownBlock ≠ some g := fun e => by
    rcases hvb with e1 | ⟨b, e1, hb⟩
    · exact hghv (by rw [← e1]; exact e)
    · rw [e] at e1; injection e1 with e1; omega
  have hvm : hv'.ownBlock ≠ some mb := fun e => by
    rcases hvb with e1 | ⟨b, e1, hb⟩
    · exact hmhv (by rw [← e1]; exact e)
    · rw [e] at e1; injection e1 with e1; omega
  have hsz9 := hg9.size
  refine ⟨⟨?_, fun w2 hb2 => h.alph w2 ((hc9.below hTB h.low.1).trans hb2), h.good, ?_, ?_, fun s => ?_, fun y hy => ?_, ⟨Nat.le_trans h.low.1 hc9.size, h.low.2⟩, fun b hb => ?_⟩, hc9⟩
  · have h5 := h.blk.chgS hc5 hghv
    have h6 := h5.set_ 2 hv'
    simp only [List.setIfInBounds_toArray, List.set_cons_zero, List.set_cons_succ] at h6
    have h8 := h6.below hb8 (by omega)
    exact h8.grown hg9 (fun e => by injection e with e; exact hgmb e.symm)
  · have hf : (f x.head).isSome = false := by rw [h.dom, hth]
    rw [hf] at hm
    rw [insA_len]
    exact hm
  · have h6 : (w5.setCell ⟨g, 2, none⟩ hv').ownsRow B 9 1 hv' (insA gs x L).length ((headsL (insA gs x L)).map Value.string) :=
      own_chgS (S := fun b => b = g) ho ((ChgS.refl (fun b => b = g) w5).setCell (p := ⟨g, 2, none⟩) (.inl rfl) _) (fun k hk e => hvg (by rw [hk, e]))
    have h8 := own_below h6 hb8'
    exact h8.kept hg9 (.inr hvm)
  · rw [thereB_ins]
    by_cases e : s = x.head
    · rw [if_pos e, decide_eq_true e]; rfl
    · rw [if_neg e, decide_eq_false e, h.dom s]; rfl
  · have hk9 : KeepS S9 w8 w9 := fun q hq => World.cell?_of_block (hg9.block _ (hS9 _ hq).2 (fun e => by injection e with e; have := (hS9 _ hq).1; omega))
    rcases insA_mem.1 hy with rfl | hy
    · exact ⟨cs', if_pos rfl, hx.keep (fun _ h => .inr h) hk9⟩
    · obtain ⟨cs, e1, e2⟩ := h.val y hy
      have hne : y.head ≠ x.head := fun e => by
        rw [thereB_iff.2 ⟨y, hy, e⟩] at hth; cases hth
      refine ⟨cs, by rw [if_neg hne]; exact e1, e2.keep (fun _ h => .inl h) (keepS_chg hc9 (fun b hb => (h.cont b hb).2.1) (fun b hb ht => ?_))⟩
      obtain ⟨_, _, c3, c4, c5⟩ := h.cont b hb
      rcases ht with e | e | e
      · exact c3 e
      · exact c4 e
      · exact c5 e
  · rcases hb with hb | hb
    · obtain ⟨c1, c2, c3, c4, c5⟩ := h.cont b hb
      refine ⟨c1, by omega, c3, c4, fun e => ?_⟩
      rcases hvb with e1 | ⟨k, e1, hk⟩
      · exact c5 (by rw [← e1]; exact e)
      · rw [e] at e1; injection e1 with e1; omega
    · obtain ⟨c1, c2⟩ := hS9 b hb
      refine ⟨by have := h.low.1; omega, by omega, by omega, by omega, fun e => ?_⟩
      have := (ho.lt b e).2
      omega
end
/-- What Put ends in. -/
def PutOk (w : World) (B a g mb : Nat) (hv : Value) (gs : Grps) (S : Nat → Prop) (L : List Art) (x : Art) (w' : World) : Prop :=
  ∃ hv' S' f', DictM w' B a g mb hv' gs S' (insA gs x L) f' ∧ (∀ b, S' b → S b ∨ w.heap.size ≤ b) ∧ (∀ b, hv'.ownBlock = some b → hv.ownBlock = some b ∨ w.heap.size ≤ b) ∧ ChgS (Turn g mb hv) w w'
def PutPost (w : World) (B a g mb : Nat) (hv : Value) (gs : Grps) (S : Nat → Prop) (L : List Art) (x : Art) (e : Ending) (w' : World) : Prop :=
  e = .returned (.int .i64 (artE gs L x)) ∧ (artE gs L x ≠ 0 → Below w.heap.size w w') ∧ (artE gs L x = 0 → PutOk w B a g mb hv gs S L x w')
set_option linter.unusedSimpArgs false in
set_option maxRecDepth 20000 in
set_option maxHeartbeats 8000000 in
theorem put_any {w : World} {B a g mb : Nat} {hv : Value} {gs : Grps} {S : Nat → Prop} {L : List Art} {f : ByteArray → Option Value} (h : DictM w B a g mb hv gs S L f) (hgd : GoodD gs L) (x : Art) (cs : List Value) (T : Nat → Prop) (hx : ArtF w T x cs) (hT : ∀ b, T b → b < w.heap.size) (hTd : ∀ b, T b → ¬ Turn g mb hv b) (hok : ArtOk x) :
    Calls Tryd.prog 13 #[wptr g, aggM cs] w (PutPost w B a g mb hv gs S L x) := by
  obtain ⟨A1, c1, A2, c2, A3, c3, rfl⟩ := hx.form
  have hck := fun W (hb : Below w.heap.size w W) => check_any (h.below hb) x _ T (hx.keep (fun _ h => h) (keepS_below hb hT)) (fun b hb2 => Nat.lt_of_lt_of_le (hT b hb2) hb.size) hok
  have hval := valid_any (h.below ((Below.refl w.heap.size w).alloc (Nat.le_refl _) (.cells #[.string x.head, .slice A1 x.word.length c1, .slice A2 x.texts.length c2, .slice A3 x.see.length c3] 35)))
  have hsr := fun (hk : keyOk gs x.head) W (hb : Below w.heap.size w W) => search_any (h.below hb) hgd x.head hk
  have hcl := fun (hsh : ArtShort x) W (hb : ChgS (Turn g mb hv) w W) => cloned_any (hx.keep (w' := W) (fun _ h => h) (keepS_chg hb hT hTd)) (fun b hb2 => Nat.lt_of_lt_of_le (hT b hb2) hb.size) hsh
  have hins := fun W (hb : Below w.heap.size w W) vb (hvb : Blk W vb 9 #[.string x.head]) (hlt : w.heap.size ≤ vb) => insertS_any W B hv (headsL L) (placeT gs L x.head) x.head vb (by rw [headsL_len]; exact (h.below hb).own) (by rw [headsL_len]; exact placeT_le _ _ _) (by rw [headsL_len]; have := hgd.len; omega) (Nat.le_trans h.low.1 hb.size) hvb (fun e => by have := (h.own.lt vb e).2; omega)
  rw [← insA_heads] at hins
  have hmem := fun W (hb : Below w.heap.size w W) => h.below hb
  have hbox := Blk.new w 35 #[.string x.head, .slice A1 x.word.length c1, .slice A2 x.texts.length c2, .slice A3 x.see.length c3]
  obtain ⟨r, hre⟩ : ∃ r, artE gs L x = r := ⟨_, rfl⟩
  unfold PutPost
  rw [hre] at hck ⊢
  have hgood : r = 0 → (keyOk gs x.head ∧ ArtShort x ∧ thereB L x.head = false ∧ x.head.size ≤ 64) := fun h0 => by
    obtain ⟨q1, q2, q3⟩ := artE_good (hre.trans h0) hok
    refine ⟨q1.key, ⟨?_, by have := q1.texts.1; omega, by have := q1.see.1; omega⟩, q2, q1.size⟩
    have hw := q1.word
    unfold wordE at hw
    by_cases h32 : 32 < x.word.length
    · rw [if_pos h32] at hw; omega
    · omega
  obtain ⟨A0, c0, hveq, _⟩ := ownsRow_form h.own
  obtain ⟨hd, l1, l2, l3⟩ := x
  dsimp only at *
  obtain ⟨W0, hW0⟩ : ∃ W, w.alloc (.cells #[.string hd, .slice A1 l1.length c1, .slice A2 l2.length c2, .slice A3 l3.length c3] 35) = W := ⟨_, rfl⟩
  have hb0 : Below w.heap.size w W0 := by rw [← hW0]; exact (Below.refl _ w).alloc (Nat.le_refl _) _
  have hsz0 : W0.heap.size = w.heap.size + 1 := by rw [← hW0]; simp
  have hturn : ∀ b, Turn g mb hv b → b < w.heap.size := fun b hb => by
    rcases hb with rfl | rfl | hb
    · exact h.lt
    · exact h.map.lt
    · exact (h.own.lt b hb).2
  rw [hW0] at hval hbox
  obtain ⟨b, hbw⟩ : ∃ b, w.heap.size = b := ⟨_, rfl⟩
  have hcs : ∀ W, ChgS (Turn g mb hv) W0 W → W.cell? ⟨b, 0, none⟩ = some (.string hd) ∧ W.cell? ⟨b, 1, none⟩ = some (.slice A1 l1.length c1) ∧ W.cell? ⟨b, 2, none⟩ = some (.slice A2 l2.length c2) ∧ W.cell? ⟨b, 3, none⟩ = some (.slice A3 l3.length c3) := fun W hc => by
    have e := hbox.chgS hc (fun ht => by have := hturn _ ht; omega)
    rw [hbw] at e
    exact ⟨e.cell 0, e.cell 1, e.cell 2, e.cell 3⟩
  have hch0 : ∀ W, ChgS (Turn g mb hv) W0 W → ChgS (Turn g mb hv) w W := fun W hc => (ChgS.of_below hb0).trans hc
  have hgc : ∀ W, Below W0.heap.size W0 W → W.cell? ⟨g, 1, none⟩ = some (.map (some mb)) ∧ W.cell? ⟨g, 2, none⟩ = some hv := fun W hc => (hmem W (hb0.trans (hc.mono hb0.size))).cells.2
  have HCK := Lib.hid hck; have HVAL := Lib.hid hval; have HSR := Lib.hid hsr; have HCL := Lib.hid hcl; have HINS := Lib.hid hins; have HMEM := Lib.hid hmem; have HGOOD := Lib.hid hgood; have HB0 := Lib.hid hb0; have HBW := Lib.hid hbw; have HCS := Lib.hid hcs; have HCH0 := Lib.hid hch0; have HGC := Lib.hid hgc; have HVEQ := Lib.hid hveq; have HRE := Lib.hid hre; have HLEN0 := Lib.hid hgd.len; have HTURN := Lib.hid hturn
  clear hck hval hsr hcl hins hmem hgood hb0 hcs hch0 hgc hveq hx hT hTd hok hre hbox hgd h hturn
  go_enter Tryd.func13, Tryd.ntmps13
  go_upto_region 1 with fail
  clear hW0 hbw
  go_wp2_with fail
  refine HVAL.out.mono ?_
  rintro e W1 ⟨rfl, rfl⟩
  obtain ⟨x0, x1, x2, x3⟩ := HCS.out W0 (ChgS.refl _ _)
  go_wp2_with fail
  refine (HCK.out W0 HB0.out).mono ?_
  rintro e W2 ⟨rfl, hb2⟩
  have HB2 := Lib.hid hb2
  clear x0 x1 x2 x3 hb2
  by_cases hr0 : r = 0
  rotate_left
  · have hrb : (r != 0) = true := by rw [bne_iff_ne]; exact hr0
    go_wp2
    go_ret
    exact ⟨rfl, fun _ => HB0.out.trans (HB2.out.mono HB0.out.size), fun h => absurd h hr0⟩
  subst hr0
  obtain ⟨hkey, hsh, hth, hh64⟩ := HGOOD.out rfl
  have HKEY := Lib.hid hkey; have HSH := Lib.hid hsh; have HTH := Lib.hid hth
  clear hkey hsh hth HGOOD
  have hbw2 : Below w.heap.size w W2 := HB0.out.trans (HB2.out.mono HB0.out.size)
  have HBW2 := Lib.hid hbw2
  have hkp : ∀ W, Below W2.heap.size W2 W → W.cell? ⟨b, 0, none⟩ = some (.string hd) ∧ W.cell? ⟨g, 2, none⟩ = some hv := fun W hb =>
    ⟨(HCS.out W (ChgS.of_below (HB2.out.trans (hb.mono HB2.out.size)))).1, (HGC.out W (HB2.out.trans (hb.mono HB2.out.size))).2⟩
  have HKP := Lib.hid hkp
  have hd0 := (Below.refl W2.heap.size W2).drew
  obtain ⟨s0, s1⟩ := hkp W2 (Below.refl _ _)
  have HSR2 := Lib.hid (HSR.out HKEY.out)
  clear hkp hbw2
  go_upto_region 6 with fail
  refine wp_region_held_drew (S := (fun W => W.cell? ⟨b, 0, none⟩ = some (.string hd) ∧ W.cell? ⟨g, 2, none⟩ = some hv)) (by kernel_rfl) ?_ (fun hHeld => ?_)
  · (try dsimp only)
    exact HKP.out _ (by first | exact hd0 | exact HB3.out)
  refine wpAnyH_take (i := 0) (v := ?_) rfl (by kernel_rfl) (by kernel_rfl) (by kernel_rfl) (fun _ _ _ h => h) (Or.inl ⟨by rfl, ?_⟩) (by assumption) ?_
  rotate_left
  · intro w hSw
    (try dsimp only at hSw)
    go_simp <;> with_reducible rfl
  try simp only [Act.put, List.getElem_toArray, List.getElem_cons_succ, List.getElem_cons_zero, List.setIfInBounds_toArray, List.set_cons_zero, List.set_cons_succ]
  refine wpAnyH_take (i := 1) (v := ?_) rfl (by kernel_rfl) (by kernel_rfl) (by kernel_rfl) (fun _ _ _ h => h) (Or.inl ⟨by rfl, ?_⟩) (by assumption) ?_
  rotate_left
  · intro w hSw
    (try dsimp only at hSw)
    go_simp <;> with_reducible rfl
  try simp only [Act.put, List.getElem_toArray, List.getElem_cons_succ, List.getElem_cons_zero, List.setIfInBounds_toArray, List.set_cons_zero, List.set_cons_succ]
  refine wpAnyH_take (i := 2) (v := ?_) rfl (by kernel_rfl) (by kernel_rfl) (by kernel_rfl) (fun _ _ _ h => h) (Or.inl ⟨by rfl, ?_⟩) (by assumption) ?_
  rotate_left
  · intro w hSw
    (try dsimp only at hSw)
    go_simp <;> with_reducible rfl
  try simp only [Act.put, List.getElem_toArray, List.getElem_cons_succ, List.getElem_cons_zero, List.setIfInBounds_toArray, List.set_cons_zero, List.set_cons_succ]
  refine wpAnyH_take (i := 3) (v := ?_) rfl (by kernel_rfl) (by kernel_rfl) (by kernel_rfl) (fun _ _ _ h => h) (Or.inl ⟨by rfl, ?_⟩) (by assumption) ?_
  rotate_left
  · intro w hSw
    (try dsimp only at hSw)
    go_simp <;> with_reducible rfl
  try simp only [Act.put, List.getElem_toArray, List.getElem_cons_succ, List.getElem_cons_zero, List.setIfInBounds_toArray, List.set_cons_zero, List.set_cons_succ]
  refine wpAnyH_take (i := 4) (v := ?_) rfl (by kernel_rfl) (by kernel_rfl) (by kernel_rfl) (fun _ _ _ h => h) (Or.inl ⟨by rfl, ?_⟩) (by assumption) ?_
  rotate_left
  · intro w hSw
    (try dsimp only at hSw)
    go_simp <;> with_reducible rfl
  try simp only [Act.put, List.getElem_toArray, List.getElem_cons_succ, List.getElem_cons_zero, List.setIfInBounds_toArray, List.set_cons_zero, List.set_cons_succ]
  refine wpAnyH_take (i := 5) (v := ?_) rfl (by kernel_rfl) (by kernel_rfl) (by kernel_rfl) (fun _ _ _ h => h) (Or.inl ⟨by rfl, ?_⟩) (by assumption) ?_
  rotate_left
  · intro w hSw
    (try dsimp only at hSw)
    go_simp <;> with_reducible rfl
  try simp only [Act.put, List.getElem_toArray, List.getElem_cons_succ, List.getElem_cons_zero, List.setIfInBounds_toArray, List.set_cons_zero, List.set_cons_succ]
  refine wpAnyH_take (i := 6) (v := ?_) rfl (by kernel_rfl) (by kernel_rfl) (by kernel_rfl) (fun _ _ _ h => h) (Or.inl ⟨by rfl, ?_⟩) (by assumption) ?_
  rotate_left
  · intro w hSw
    (try dsimp only at hSw)
    go_simp <;> with_reducible rfl
  try simp only [Act.put, List.getElem_toArray, List.getElem_cons_succ, List.getElem_cons_zero, List.setIfInBounds_toArray, List.set_cons_zero, List.set_cons_succ]
  refine wpAnyH_take (i := 7) (v := ?_) rfl (by kernel_rfl) (by kernel_rfl) (by kernel_rfl) (fun _ _ _ h => h) (Or.inl ⟨by rfl, ?_⟩) (by assumption) ?_
  rotate_left
  · intro w hSw
    (try dsimp only at hSw)
    go_simp <;> with_reducible rfl
  try simp only [Act.put, List.getElem_toArray, List.getElem_cons_succ, List.getElem_cons_zero, List.setIfInBounds_toArray, List.set_cons_zero, List.set_cons_succ]
  refine wpAnyH_ready (rs := [8]) (by kernel_rfl) (by simp) ?_
  refine AllReadyH.cons rfl (fun K hK => ?_) AllReadyH.nil
  go_simp
  (try go_wp2_with fail)
  refine (HSR2.out _ (HBW2.out.trans (hd0.mono HBW2.out.size))).mono ?_
  rintro e W3 ⟨rfl, hb3⟩
  have HB3 := Lib.hid (hd0.trans hb3)
  (try go_simp)
  refine hK.out _ _ ?_ (fun hHeld' => ?_)
  · (try dsimp only)
    exact HKP.out _ (by first | exact hd0 | exact HB3.out)
  clear hK K hHeld
  have hHeld := hHeld'
  clear hHeld'
  refine wpAnyH_take (i := 9) (v := ?_) rfl (by kernel_rfl) (by kernel_rfl) (by kernel_rfl) (fun _ _ _ h => h) (Or.inl ⟨by rfl, ?_⟩) (by assumption) ?_
  rotate_left
  · intro w hSw
    (try dsimp only at hSw)
    go_simp <;> with_reducible rfl
  try simp only [Act.put, List.getElem_toArray, List.getElem_cons_succ, List.getElem_cons_zero, List.setIfInBounds_toArray, List.set_cons_zero, List.set_cons_succ]
  refine wpAnyH_take (i := 10) (v := ?_) rfl (by kernel_rfl) (by kernel_rfl) (by kernel_rfl) (fun _ _ _ h => h) (Or.inl ⟨by rfl, ?_⟩) (by assumption) ?_
  rotate_left
  · intro w hSw
    (try dsimp only at hSw)
    go_simp <;> with_reducible rfl
  try simp only [Act.put, List.getElem_toArray, List.getElem_cons_succ, List.getElem_cons_zero, List.setIfInBounds_toArray, List.set_cons_zero, List.set_cons_succ]
  refine wpAnyH_take (i := 11) (v := ?_) rfl (by kernel_rfl) (by kernel_rfl) (by kernel_rfl) (fun _ _ _ h => h) (Or.inl ⟨by rfl, ?_⟩) (by assumption) ?_
  rotate_left
  · intro w hSw
    (try dsimp only at hSw)
    go_simp <;> with_reducible rfl
  try simp only [Act.put, List.getElem_toArray, List.getElem_cons_succ, List.getElem_cons_zero, List.setIfInBounds_toArray, List.set_cons_zero, List.set_cons_succ]
  refine wpAnyH_take (i := 12) (v := ?_) rfl (by kernel_rfl) (by kernel_rfl) (by kernel_rfl) (fun _ _ _ h => h) (Or.inl ⟨by rfl, ?_⟩) (by assumption) ?_
  rotate_left
  · intro w hSw
    (try dsimp only at hSw)
    go_simp <;> with_reducible rfl
  try simp only [Act.put, List.getElem_toArray, List.getElem_cons_succ, List.getElem_cons_zero, List.setIfInBounds_toArray, List.set_cons_zero, List.set_cons_succ]
  refine wpAnyH_take (i := 13) (v := ?_) rfl (by kernel_rfl) (by kernel_rfl) (by kernel_rfl) (fun _ _ _ h => h) (Or.inl ⟨by rfl, ?_⟩) (by assumption) ?_
  rotate_left
  · intro w hSw
    (try dsimp only at hSw)
    go_simp <;> with_reducible rfl
  try simp only [Act.put, List.getElem_toArray, List.getElem_cons_succ, List.getElem_cons_zero, List.setIfInBounds_toArray, List.set_cons_zero, List.set_cons_succ]
  refine wpAnyH_done (by kernel_rfl) ?_ _
  obtain ⟨pl, hpl⟩ : ∃ pl, placeT gs L hd = pl := ⟨_, rfl⟩
  rw [hpl]
  have hpl0 := HINS.out
  rw [hpl] at hpl0
  have H3 := Lib.hid (HMEM.out W3 (HBW2.out.trans (HB3.out.mono HBW2.out.size)))
  have HB03 := Lib.hid (HB2.out.trans (HB3.out.mono HB2.out.size))
  have HINS2 := Lib.hid hpl0
  clear hpl hpl0 hb3 hd0 s0 s1 HINS
  obtain ⟨t0, t1⟩ := hHeld
  have hgl3 : g < W3.heap.size := H3.out.lt
  have hk7 : ∀ W, ChgS (Turn g mb hv) W0 W → W.cell? ⟨b, 0, none⟩ = some (.string hd) := fun W hc => (HCS.out W hc).1
  have HK7 := Lib.hid hk7
  have HE3 := Lib.hid ((ChgS.of_below (S := Turn g mb hv) HB03.out).drewN 1)
  have HE4 := Lib.hid (HE3.out.alloc (.cells #[.string hd] 9))
  have hvb4 := Blk.new W3.drew 9 #[.string hd]
  have HVB4 := Lib.hid hvb4
  have HBW4 : Hid (Below w.heap.size w (W3.drew.alloc (.cells #[.string hd] 9))) := Lib.hid (((HBW2.out.trans (HB3.out.mono HBW2.out.size)).drew).alloc (by have := HBW2.out.size; have := HB3.out.size; show w.heap.size ≤ W3.heap.size; omega) _)
  have HB3S : Hid (w.heap.size ≤ W3.heap.size) := Lib.hid (Nat.le_trans HBW2.out.size HB3.out.size)
  have HG4 := Lib.hid ((H3.out.blk.drew).alloc (.cells #[.string hd] 9)); have HM4 := Lib.hid ((H3.out.map.drewN 1).below ((Below.refl W3.drew.heap.size W3.drew).alloc (Nat.le_refl _) (.cells #[.string hd] 9)))
  have HGHV : Hid (hv.ownBlock ≠ some g) := Lib.hid (own_blk_ne H3.out.own H3.out.blk (by decide))
  have HMHV : Hid (hv.ownBlock ≠ some mb) := Lib.hid (H3.out.map.ne_own H3.out.own)
  have HMG : Hid (mb ≠ g) := Lib.hid (H3.out.map.ne_blk H3.out.blk)
  have HLEN : Hid (L.length ≤ 1024) := HLEN0
  clear hk7 hvb4
  go_upto_region 7 with fail
  refine wp_region_held_drew (S := (fun W => W.cell? ⟨b, 0, none⟩ = some (.string hd))) (by kernel_rfl) ?_ (fun hHeld => ?_)
  · (try dsimp only)
    exact HK7.out _ (by first | exact HE3.out | exact HE4.out)
  refine wpAnyH_take (i := 0) (v := ?_) rfl (by kernel_rfl) (by kernel_rfl) (by kernel_rfl) (fun _ _ _ h => h) (Or.inl ⟨by rfl, ?_⟩) (by assumption) ?_
  rotate_left
  · intro w hSw
    (try dsimp only at hSw)
    go_simp <;> with_reducible rfl
  try simp only [Act.put, List.getElem_toArray, List.getElem_cons_succ, List.getElem_cons_zero, List.setIfInBounds_toArray, List.set_cons_zero, List.set_cons_succ]
  refine wpAnyH_take (i := 1) (v := ?_) rfl (by kernel_rfl) (by kernel_rfl) (by kernel_rfl) (fun _ _ _ h => h) (Or.inl ⟨by rfl, ?_⟩) (by assumption) ?_
  rotate_left
  · intro w hSw
    (try dsimp only at hSw)
    go_simp <;> with_reducible rfl
  try simp only [Act.put, List.getElem_toArray, List.getElem_cons_succ, List.getElem_cons_zero, List.setIfInBounds_toArray, List.set_cons_zero, List.set_cons_succ]
  refine wpAnyH_take (i := 2) (v := ?_) rfl (by kernel_rfl) (by kernel_rfl) (by kernel_rfl) (fun _ _ _ h => h) (Or.inl ⟨by rfl, ?_⟩) (by assumption) ?_
  rotate_left
  · intro w hSw
    (try dsimp only at hSw)
    go_simp <;> with_reducible rfl
  try simp only [Act.put, List.getElem_toArray, List.getElem_cons_succ, List.getElem_cons_zero, List.setIfInBounds_toArray, List.set_cons_zero, List.set_cons_succ]
  refine wpAnyH_take (i := 3) (v := ?_) rfl (by kernel_rfl) (by kernel_rfl) (by kernel_rfl) (fun _ _ _ h => h) (Or.inl ⟨by rfl, ?_⟩) (by assumption) ?_
  rotate_left
  · intro w hSw
    (try dsimp only at hSw)
    go_simp <;> with_reducible rfl
  try simp only [Act.put, List.getElem_toArray, List.getElem_cons_succ, List.getElem_cons_zero, List.setIfInBounds_toArray, List.set_cons_zero, List.set_cons_succ]
  refine wpAnyH_take (i := 5) (v := ?_) rfl (by kernel_rfl) (by kernel_rfl) (by kernel_rfl) (fun _ _ _ h => h) (Or.inl ⟨by rfl, ?_⟩) (by assumption) ?_
  rotate_left
  · intro w hSw
    (try dsimp only at hSw)
    go_simp <;> with_reducible rfl
  try simp only [Act.put, List.getElem_toArray, List.getElem_cons_succ, List.getElem_cons_zero, List.setIfInBounds_toArray, List.set_cons_zero, List.set_cons_succ]
  refine wpAnyH_take (i := 6) (v := ?_) rfl (by kernel_rfl) (by kernel_rfl) (by kernel_rfl) (fun _ _ _ h => h) (Or.inl ⟨by rfl, ?_⟩) (by assumption) ?_
  rotate_left
  · intro w hSw
    (try dsimp only at hSw)
    go_simp <;> with_reducible rfl
  try simp only [Act.put, List.getElem_toArray, List.getElem_cons_succ, List.getElem_cons_zero, List.setIfInBounds_toArray, List.set_cons_zero, List.set_cons_succ]
  refine wpAnyH_take (i := 7) (v := ?_) rfl (by kernel_rfl) (by kernel_rfl) (by kernel_rfl) (fun _ _ _ h => h) (Or.inl ⟨by rfl, ?_⟩) (by assumption) ?_
  rotate_left
  · intro w hSw
    (try dsimp only at hSw)
    go_simp <;> with_reducible rfl
  try simp only [Act.put, List.getElem_toArray, List.getElem_cons_succ, List.getElem_cons_zero, List.setIfInBounds_toArray, List.set_cons_zero, List.set_cons_succ]
  refine wpAnyH_ready (rs := [4, 8]) (by kernel_rfl) (by simp) ?_
  refine AllReadyH.cons rfl (fun K hK => ?_) (AllReadyH.cons rfl (fun K hK => ?_) AllReadyH.nil)
  · go_simp
    refine hK.out _ _ ?_ (fun hHeld' => ?_)
    · (try dsimp only)
      exact HK7.out _ (by first | exact HE3.out | exact HE4.out)
    clear hK K hHeld
    have hHeld := hHeld'
    clear hHeld'
    refine wpAnyH_ready (rs := [8]) (by kernel_rfl) (by simp) ?_
    refine AllReadyH.cons rfl (fun K hK => ?_) AllReadyH.nil
    go_simp
    refine hK.out _ _ ?_ (fun hHeld' => ?_)
    · (try dsimp only)
      exact HK7.out _ (by first | exact HE3.out | exact HE4.out)
    clear hK K hHeld
    have hHeld := hHeld'
    clear hHeld'
    refine wpAnyH_ready (rs := [9]) (by kernel_rfl) (by simp) ?_
    refine AllReadyH.cons rfl (fun K hK => ?_) AllReadyH.nil
    go_simp
    (try go_wp2_with fail)
    refine (HINS2.out _ HBW4.out W3.heap.size HVB4.out HB3S.out).mono ?_
    rintro e W5 ⟨v5, rfl, ho5, hc5, hv5⟩
    rw [headsL_len] at ho5
    obtain ⟨A5, c5, rfl, -, -⟩ := ownsRow_form ho5
    have hg5 := HG4.out.chgS hc5 HGHV.out
    have y2 := hg5.cell 2
    have y3 := hg5.frozen 2
    simp only [List.getElem?_toArray, List.getElem?_cons_zero, List.getElem?_cons_succ] at y2
    have HE5 := Lib.hid (HE4.out.trans (hc5.mono fun k _ hk => .inr (.inr hk)))
    have HE6 := Lib.hid (HE5.out.setCell (p := ⟨g, 2, none⟩) (.inl (.inl rfl)) (.slice A5 (insA gs ⟨hd, l1, l2, l3⟩ L).length c5))
    have HO5 := Lib.hid ho5; have HC5 := Lib.hid hc5; have HV5 := Lib.hid hv5; have HG5 := Lib.hid hg5
    clear ho5 hc5 hv5 hg5
    (try go_simp)
    refine hK.out _ _ ?_ (fun hHeld' => ?_)
    · (try dsimp only)
      exact HK7.out _ (by first | exact HE3.out | exact HE4.out | exact HE5.out | exact HE6.out)
    clear hK K hHeld
    have hHeld := hHeld'
    clear hHeld'
    refine wpAnyH_ready (rs := [10]) (by kernel_rfl) (by simp) ?_
    refine AllReadyH.cons rfl (fun K hK => ?_) AllReadyH.nil
    go_simp
    refine hK.out _ _ ?_ (fun hHeld' => ?_)
    · (try dsimp only)
      exact HK7.out _ (by first | exact HE3.out | exact HE4.out | exact HE5.out | exact HE6.out)
    clear hK K hHeld
    have hHeld := hHeld'
    clear hHeld'
    refine wpAnyH_ready (rs := [11]) (by kernel_rfl) (by simp) ?_
    refine AllReadyH.cons rfl (fun K hK => ?_) AllReadyH.nil
    go_simp
    refine hK.out _ _ ?_ (fun hHeld' => ?_)
    · (try dsimp only)
      exact HK7.out _ (by first | exact HE3.out | exact HE4.out | exact HE5.out | exact HE6.out)
    clear hK K hHeld
    have hHeld := hHeld'
    clear hHeld'
    refine wpAnyH_ready (rs := [12]) (by kernel_rfl) (by simp) ?_
    refine AllReadyH.cons rfl (fun K hK => ?_) AllReadyH.nil
    go_simp
    refine hK.out _ _ ?_ (fun hHeld' => ?_)
    · (try dsimp only)
      exact HK7.out _ (by first | exact HE3.out | exact HE4.out | exact HE5.out | exact HE6.out)
    clear hK K hHeld
    have hHeld := hHeld'
    clear hHeld'
    refine wpAnyH_done (by kernel_rfl) ?_ _
    clear hHeld y2 y3 t0 t1
    obtain ⟨W6, hW6⟩ : ∃ W, W5.setCell ⟨g, 2, none⟩ (.slice A5 (insA gs ⟨hd, l1, l2, l3⟩ L).length c5) = W := ⟨_, rfl⟩
    have hsz6 : W6.heap.size = W5.heap.size := by rw [← hW6]; simp [World.setCell]
    have hg6 := HG5.out.set_ 2 (.slice A5 (insA gs ⟨hd, l1, l2, l3⟩ L).length c5)
    simp only [List.setIfInBounds_toArray, List.set_cons_zero, List.set_cons_succ] at hg6
    have he6 := HE6.out
    have hm6 : MapH (W5.setCell ⟨g, 2, none⟩ (.slice A5 (insA gs ⟨hd, l1, l2, l3⟩ L).length c5)) mb L.length f := ((HM4.out.chgS HC5.out HMHV.out).chgS (S := fun k => k = g) ((ChgS.refl (fun k => k = g) W5).setCell (p := ⟨g, 2, none⟩) (.inl rfl) _) HMG.out)
    rw [hW6] at hg6 he6 hm6 ⊢
    have HW6 := Lib.hid hW6; have HG6 := Lib.hid hg6; have HC6 := Lib.hid he6; have HM6 := Lib.hid hm6
    have hk8 : ∀ W, ChgS (fun k => k = mb) W6 W → W.cell? ⟨g, 1, none⟩ = some (.map (some mb)) ∧ W.cell? ⟨b, 0, none⟩ = some (.string hd) ∧ W.cell? ⟨b, 1, none⟩ = some (.slice A1 l1.length c1) ∧ W.cell? ⟨b, 2, none⟩ = some (.slice A2 l2.length c2) ∧ W.cell? ⟨b, 3, none⟩ = some (.slice A3 l3.length c3) := fun W hc =>
      ⟨(HG6.out.chgS hc (fun e => HMG.out e.symm)).cell 1, HCS.out W (HC6.out.trans (hc.mono fun k _ hk => .inr (.inl hk)))⟩
    have HK8 := Lib.hid hk8
    have he8 : ChgS (fun k => k = mb) W6 W6.drew := (ChgS.refl _ _).drewN 1
    obtain ⟨u0, u1, u2, u3, u4⟩ := hk8 W6 (ChgS.refl _ _)
    have HCH8 := Lib.hid (HCH0.out W6.drew (HC6.out.drewN 1))
    clear hW6 hg6 he6 hm6 hk8 HE6
    go_upto_region 8 with fail
    refine wp_region_held_drew (S := (fun W => W.cell? ⟨g, 1, none⟩ = some (.map (some mb)) ∧ W.cell? ⟨b, 0, none⟩ = some (.string hd) ∧ W.cell? ⟨b, 1, none⟩ = some (.slice A1 l1.length c1) ∧ W.cell? ⟨b, 2, none⟩ = some (.slice A2 l2.length c2) ∧ W.cell? ⟨b, 3, none⟩ = some (.slice A3 l3.length c3))) (by kernel_rfl) ?_ (fun hHeld => ?_)
    · (try dsimp only)
      exact HK8.out _ (by first | exact he8 | exact HE8.out | exact HE9.out)
    refine wpAnyH_take (i := 0) (v := ?_) rfl (by kernel_rfl) (by kernel_rfl) (by kernel_rfl) (fun _ _ _ h => h) (Or.inl ⟨by rfl, ?_⟩) (by assumption) ?_
    rotate_left
    · intro w hSw
      (try dsimp only at hSw)
      go_simp <;> with_reducible rfl
    try simp only [Act.put, List.getElem_toArray, List.getElem_cons_succ, List.getElem_cons_zero, List.setIfInBounds_toArray, List.set_cons_zero, List.set_cons_succ]
    refine wpAnyH_take (i := 1) (v := ?_) rfl (by kernel_rfl) (by kernel_rfl) (by kernel_rfl) (fun _ _ _ h => h) (Or.inl ⟨by rfl, ?_⟩) (by assumption) ?_
    rotate_left
    · intro w hSw
      (try dsimp only at hSw)
      go_simp <;> with_reducible rfl
    try simp only [Act.put, List.getElem_toArray, List.getElem_cons_succ, List.getElem_cons_zero, List.setIfInBounds_toArray, List.set_cons_zero, List.set_cons_succ]
    refine wpAnyH_take (i := 2) (v := ?_) rfl (by kernel_rfl) (by kernel_rfl) (by kernel_rfl) (fun _ _ _ h => h) (Or.inl ⟨by rfl, ?_⟩) (by assumption) ?_
    rotate_left
    · intro w hSw
      (try dsimp only at hSw)
      go_simp <;> with_reducible rfl
    try simp only [Act.put, List.getElem_toArray, List.getElem_cons_succ, List.getElem_cons_zero, List.setIfInBounds_toArray, List.set_cons_zero, List.set_cons_succ]
    refine wpAnyH_take (i := 3) (v := ?_) rfl (by kernel_rfl) (by kernel_rfl) (by kernel_rfl) (fun _ _ _ h => h) (Or.inl ⟨by rfl, ?_⟩) (by assumption) ?_
    rotate_left
    · intro w hSw
      (try dsimp only at hSw)
      go_simp <;> with_reducible rfl
    try simp only [Act.put, List.getElem_toArray, List.getElem_cons_succ, List.getElem_cons_zero, List.setIfInBounds_toArray, List.set_cons_zero, List.set_cons_succ]
    refine wpAnyH_take (i := 4) (v := ?_) rfl (by kernel_rfl) (by kernel_rfl) (by kernel_rfl) (fun _ _ _ h => h) (Or.inl ⟨by rfl, ?_⟩) (by assumption) ?_
    rotate_left
    · intro w hSw
      (try dsimp only at hSw)
      go_simp <;> with_reducible rfl
    try simp only [Act.put, List.getElem_toArray, List.getElem_cons_succ, List.getElem_cons_zero, List.setIfInBounds_toArray, List.set_cons_zero, List.set_cons_succ]
    refine wpAnyH_take (i := 5) (v := ?_) rfl (by kernel_rfl) (by kernel_rfl) (by kernel_rfl) (fun _ _ _ h => h) (Or.inl ⟨by rfl, ?_⟩) (by assumption) ?_
    rotate_left
    · intro w hSw
      (try dsimp only at hSw)
      go_simp <;> with_reducible rfl
    try simp only [Act.put, List.getElem_toArray, List.getElem_cons_succ, List.getElem_cons_zero, List.setIfInBounds_toArray, List.set_cons_zero, List.set_cons_succ]
    refine wpAnyH_take (i := 6) (v := ?_) rfl (by kernel_rfl) (by kernel_rfl) (by kernel_rfl) (fun _ _ _ h => h) (Or.inl ⟨by rfl, ?_⟩) (by assumption) ?_
    rotate_left
    · intro w hSw
      (try dsimp only at hSw)
      go_simp <;> with_reducible rfl
    try simp only [Act.put, List.getElem_toArray, List.getElem_cons_succ, List.getElem_cons_zero, List.setIfInBounds_toArray, List.set_cons_zero, List.set_cons_succ]
    refine wpAnyH_ready (rs := [7]) (by kernel_rfl) (by simp) ?_
    refine AllReadyH.cons rfl (fun K hK => ?_) AllReadyH.nil
    go_simp
    (try go_wp2_with fail)
    refine (HCL.out HSH.out _ HCH8.out).mono ?_
    rintro e W8 ⟨cs8, rfl, hx8, hb8⟩
    have HE8 := Lib.hid (he8.trans (ChgS.of_below hb8)); have HX8 := Lib.hid hx8; have HB8 := Lib.hid hb8
    have hm8 : MapH W8 mb L.length f := (HM6.out.drewN 1).below hb8
    clear hx8 hb8
    (try go_simp)
    refine hK.out _ _ ?_ (fun hHeld' => ?_)
    · (try dsimp only)
      exact HK8.out _ (by first | exact he8 | exact HE8.out | exact HE9.out)
    clear hK K hHeld
    have hHeld := hHeld'
    clear hHeld'
    refine wpAnyH_ready (rs := [8]) (by kernel_rfl) (by simp) ?_
    refine AllReadyH.cons rfl (fun K hK => ?_) AllReadyH.nil
    refine step_putH rfl 58 35 _ _ _ rfl Tryd.underlying58 mb L.length f rfl hm8 (by have := HLEN.out; unfold maxLen; omega) hd (by unfold maxLen; omega) (aggM cs8) rfl rfl ?_
    intro W9 hm9 hg9
    have HE9 := Lib.hid (HE8.out.grown hg9 (fun k hk => by injection hk with hk; exact .inl hk.symm)); have HM9 := Lib.hid hm9; have HG9 := Lib.hid hg9
    clear hm9 hg9
    refine hK.out _ _ ?_ (fun hHeld' => ?_)
    · (try dsimp only)
      exact HK8.out _ (by first | exact he8 | exact HE8.out | exact HE9.out)
    clear hK K hHeld
    have hHeld := hHeld'
    clear hHeld'
    refine wpAnyH_done (by kernel_rfl) ?_ _
    go_wp2
    go_ret
    have hb8' : Below W5.heap.size (W5.setCell ⟨g, 2, none⟩ (.slice A5 (insA gs ⟨hd, l1, l2, l3⟩ L).length c5)) W8 := by
      rw [HW6.out, ← hsz6]; exact ((Below.refl _ W6).drew).trans HB8.out
    obtain ⟨q1, q2⟩ := H3.out.put_ (w3 := W3) (x := ⟨hd, l1, l2, l3⟩) (S9 := NewS W6 W8) (((ChgS.refl _ W3).drewN 1 |>.alloc _).trans HC5.out) HO5.out (by
      rcases HV5.out with e | ⟨k, e, hk⟩
      · exact .inl e
      · exact .inr ⟨k, e, by have : W3.heap.size + 1 ≤ k := by simpa using hk
                             omega⟩) hb8' HX8.out (fun k hk => ⟨by rw [← hsz6]; exact hk.1, hk.2⟩) HM9.out HG9.out HTH.out
    have hsz3 : w.heap.size ≤ W3.heap.size := Nat.le_trans HBW2.out.size HB3.out.size
    refine ⟨rfl, _, _, _, q1, fun k hk => ?_, fun k hk => ?_, (ChgS.of_below (HBW2.out.trans (HB3.out.mono HBW2.out.size))).trans q2⟩
    · rcases hk with hk | hk
      · exact .inl hk
      · refine .inr ?_
        have h5 := HC5.out.size
        have h6 := hk.1
        simp at h5
        omega
    · rcases HV5.out with e | ⟨j, e, hj⟩
      · exact .inl (by rw [← e]; exact hk)
      · refine .inr ?_
        rw [e] at hk
        injection hk with hk
        subst hk
        simp at hj
        omega
  · go_simp
    refine hK.out _ _ ?_ (fun hHeld' => ?_)
    · (try dsimp only)
      exact HK7.out _ (by first | exact HE3.out | exact HE4.out)
    clear hK K hHeld
    have hHeld := hHeld'
    clear hHeld'
    refine wpAnyH_ready (rs := [4]) (by kernel_rfl) (by simp) ?_
    refine AllReadyH.cons rfl (fun K hK => ?_) AllReadyH.nil
    go_simp
    refine hK.out _ _ ?_ (fun hHeld' => ?_)
    · (try dsimp only)
      exact HK7.out _ (by first | exact HE3.out | exact HE4.out)
    clear hK K hHeld
    have hHeld := hHeld'
    clear hHeld'
    refine wpAnyH_ready (rs := [9]) (by kernel_rfl) (by simp) ?_
    refine AllReadyH.cons rfl (fun K hK => ?_) AllReadyH.nil
    go_simp
    (try go_wp2_with fail)
    refine (HINS2.out _ HBW4.out W3.heap.size HVB4.out HB3S.out).mono ?_
    rintro e W5 ⟨v5, rfl, ho5, hc5, hv5⟩
    rw [headsL_len] at ho5
    obtain ⟨A5, c5, rfl, -, -⟩ := ownsRow_form ho5
    have hg5 := HG4.out.chgS hc5 HGHV.out
    have y2 := hg5.cell 2
    have y3 := hg5.frozen 2
    simp only [List.getElem?_toArray, List.getElem?_cons_zero, List.getElem?_cons_succ] at y2
    have HE5 := Lib.hid (HE4.out.trans (hc5.mono fun k _ hk => .inr (.inr hk)))
    have HE6 := Lib.hid (HE5.out.setCell (p := ⟨g, 2, none⟩) (.inl (.inl rfl)) (.slice A5 (insA gs ⟨hd, l1, l2, l3⟩ L).length c5))
    have HO5 := Lib.hid ho5; have HC5 := Lib.hid hc5; have HV5 := Lib.hid hv5; have HG5 := Lib.hid hg5
    clear ho5 hc5 hv5 hg5
    (try go_simp)
    refine hK.out _ _ ?_ (fun hHeld' => ?_)
    · (try dsimp only)
      exact HK7.out _ (by first | exact HE3.out | exact HE4.out | exact HE5.out | exact HE6.out)
    clear hK K hHeld
    have hHeld := hHeld'
    clear hHeld'
    refine wpAnyH_ready (rs := [10]) (by kernel_rfl) (by simp) ?_
    refine AllReadyH.cons rfl (fun K hK => ?_) AllReadyH.nil
    go_simp
    refine hK.out _ _ ?_ (fun hHeld' => ?_)
    · (try dsimp only)
      exact HK7.out _ (by first | exact HE3.out | exact HE4.out | exact HE5.out | exact HE6.out)
    clear hK K hHeld
    have hHeld := hHeld'
    clear hHeld'
    refine wpAnyH_ready (rs := [11]) (by kernel_rfl) (by simp) ?_
    refine AllReadyH.cons rfl (fun K hK => ?_) AllReadyH.nil
    go_simp
    refine hK.out _ _ ?_ (fun hHeld' => ?_)
    · (try dsimp only)
      exact HK7.out _ (by first | exact HE3.out | exact HE4.out | exact HE5.out | exact HE6.out)
    clear hK K hHeld
    have hHeld := hHeld'
    clear hHeld'
    refine wpAnyH_ready (rs := [12]) (by kernel_rfl) (by simp) ?_
    refine AllReadyH.cons rfl (fun K hK => ?_) AllReadyH.nil
    go_simp
    refine hK.out _ _ ?_ (fun hHeld' => ?_)
    · (try dsimp only)
      exact HK7.out _ (by first | exact HE3.out | exact HE4.out | exact HE5.out | exact HE6.out)
    clear hK K hHeld
    have hHeld := hHeld'
    clear hHeld'
    refine wpAnyH_done (by kernel_rfl) ?_ _
    clear hHeld y2 y3 t0 t1
    obtain ⟨W6, hW6⟩ : ∃ W, W5.setCell ⟨g, 2, none⟩ (.slice A5 (insA gs ⟨hd, l1, l2, l3⟩ L).length c5) = W := ⟨_, rfl⟩
    have hsz6 : W6.heap.size = W5.heap.size := by rw [← hW6]; simp [World.setCell]
    have hg6 := HG5.out.set_ 2 (.slice A5 (insA gs ⟨hd, l1, l2, l3⟩ L).length c5)
    simp only [List.setIfInBounds_toArray, List.set_cons_zero, List.set_cons_succ] at hg6
    have he6 := HE6.out
    have hm6 : MapH (W5.setCell ⟨g, 2, none⟩ (.slice A5 (insA gs ⟨hd, l1, l2, l3⟩ L).length c5)) mb L.length f := ((HM4.out.chgS HC5.out HMHV.out).chgS (S := fun k => k = g) ((ChgS.refl (fun k => k = g) W5).setCell (p := ⟨g, 2, none⟩) (.inl rfl) _) HMG.out)
    rw [hW6] at hg6 he6 hm6 ⊢
    have HW6 := Lib.hid hW6; have HG6 := Lib.hid hg6; have HC6 := Lib.hid he6; have HM6 := Lib.hid hm6
    have hk8 : ∀ W, ChgS (fun k => k = mb) W6 W → W.cell? ⟨g, 1, none⟩ = some (.map (some mb)) ∧ W.cell? ⟨b, 0, none⟩ = some (.string hd) ∧ W.cell? ⟨b, 1, none⟩ = some (.slice A1 l1.length c1) ∧ W.cell? ⟨b, 2, none⟩ = some (.slice A2 l2.length c2) ∧ W.cell? ⟨b, 3, none⟩ = some (.slice A3 l3.length c3) := fun W hc =>
      ⟨(HG6.out.chgS hc (fun e => HMG.out e.symm)).cell 1, HCS.out W (HC6.out.trans (hc.mono fun k _ hk => .inr (.inl hk)))⟩
    have HK8 := Lib.hid hk8
    have he8 : ChgS (fun k => k = mb) W6 W6.drew := (ChgS.refl _ _).drewN 1
    obtain ⟨u0, u1, u2, u3, u4⟩ := hk8 W6 (ChgS.refl _ _)
    have HCH8 := Lib.hid (HCH0.out W6.drew (HC6.out.drewN 1))
    clear hW6 hg6 he6 hm6 hk8 HE6
    go_upto_region 8 with fail
    refine wp_region_held_drew (S := (fun W => W.cell? ⟨g, 1, none⟩ = some (.map (some mb)) ∧ W.cell? ⟨b, 0, none⟩ = some (.string hd) ∧ W.cell? ⟨b, 1, none⟩ = some (.slice A1 l1.length c1) ∧ W.cell? ⟨b, 2, none⟩ = some (.slice A2 l2.length c2) ∧ W.cell? ⟨b, 3, none⟩ = some (.slice A3 l3.length c3))) (by kernel_rfl) ?_ (fun hHeld => ?_)
    · (try dsimp only)
      exact HK8.out _ (by first | exact he8 | exact HE8.out | exact HE9.out)
    refine wpAnyH_take (i := 0) (v := ?_) rfl (by kernel_rfl) (by kernel_rfl) (by kernel_rfl) (fun _ _ _ h => h) (Or.inl ⟨by rfl, ?_⟩) (by assumption) ?_
    rotate_left
    · intro w hSw
      (try dsimp only at hSw)
      go_simp <;> with_reducible rfl
    try simp only [Act.put, List.getElem_toArray, List.getElem_cons_succ, List.getElem_cons_zero, List.setIfInBounds_toArray, List.set_cons_zero, List.set_cons_succ]
    refine wpAnyH_take (i := 1) (v := ?_) rfl (by kernel_rfl) (by kernel_rfl) (by kernel_rfl) (fun _ _ _ h => h) (Or.inl ⟨by rfl, ?_⟩) (by assumption) ?_
    rotate_left
    · intro w hSw
      (try dsimp only at hSw)
      go_simp <;> with_reducible rfl
    try simp only [Act.put, List.getElem_toArray, List.getElem_cons_succ, List.getElem_cons_zero, List.setIfInBounds_toArray, List.set_cons_zero, List.set_cons_succ]
    refine wpAnyH_take (i := 2) (v := ?_) rfl (by kernel_rfl) (by kernel_rfl) (by kernel_rfl) (fun _ _ _ h => h) (Or.inl ⟨by rfl, ?_⟩) (by assumption) ?_
    rotate_left
    · intro w hSw
      (try dsimp only at hSw)
      go_simp <;> with_reducible rfl
    try simp only [Act.put, List.getElem_toArray, List.getElem_cons_succ, List.getElem_cons_zero, List.setIfInBounds_toArray, List.set_cons_zero, List.set_cons_succ]
    refine wpAnyH_take (i := 3) (v := ?_) rfl (by kernel_rfl) (by kernel_rfl) (by kernel_rfl) (fun _ _ _ h => h) (Or.inl ⟨by rfl, ?_⟩) (by assumption) ?_
    rotate_left
    · intro w hSw
      (try dsimp only at hSw)
      go_simp <;> with_reducible rfl
    try simp only [Act.put, List.getElem_toArray, List.getElem_cons_succ, List.getElem_cons_zero, List.setIfInBounds_toArray, List.set_cons_zero, List.set_cons_succ]
    refine wpAnyH_take (i := 4) (v := ?_) rfl (by kernel_rfl) (by kernel_rfl) (by kernel_rfl) (fun _ _ _ h => h) (Or.inl ⟨by rfl, ?_⟩) (by assumption) ?_
    rotate_left
    · intro w hSw
      (try dsimp only at hSw)
      go_simp <;> with_reducible rfl
    try simp only [Act.put, List.getElem_toArray, List.getElem_cons_succ, List.getElem_cons_zero, List.setIfInBounds_toArray, List.set_cons_zero, List.set_cons_succ]
    refine wpAnyH_take (i := 5) (v := ?_) rfl (by kernel_rfl) (by kernel_rfl) (by kernel_rfl) (fun _ _ _ h => h) (Or.inl ⟨by rfl, ?_⟩) (by assumption) ?_
    rotate_left
    · intro w hSw
      (try dsimp only at hSw)
      go_simp <;> with_reducible rfl
    try simp only [Act.put, List.getElem_toArray, List.getElem_cons_succ, List.getElem_cons_zero, List.setIfInBounds_toArray, List.set_cons_zero, List.set_cons_succ]
    refine wpAnyH_take (i := 6) (v := ?_) rfl (by kernel_rfl) (by kernel_rfl) (by kernel_rfl) (fun _ _ _ h => h) (Or.inl ⟨by rfl, ?_⟩) (by assumption) ?_
    rotate_left
    · intro w hSw
      (try dsimp only at hSw)
      go_simp <;> with_reducible rfl
    try simp only [Act.put, List.getElem_toArray, List.getElem_cons_succ, List.getElem_cons_zero, List.setIfInBounds_toArray, List.set_cons_zero, List.set_cons_succ]
    refine wpAnyH_ready (rs := [7]) (by kernel_rfl) (by simp) ?_
    refine AllReadyH.cons rfl (fun K hK => ?_) AllReadyH.nil
    go_simp
    (try go_wp2_with fail)
    refine (HCL.out HSH.out _ HCH8.out).mono ?_
    rintro e W8 ⟨cs8, rfl, hx8, hb8⟩
    have HE8 := Lib.hid (he8.trans (ChgS.of_below hb8)); have HX8 := Lib.hid hx8; have HB8 := Lib.hid hb8
    have hm8 : MapH W8 mb L.length f := (HM6.out.drewN 1).below hb8
    clear hx8 hb8
    (try go_simp)
    refine hK.out _ _ ?_ (fun hHeld' => ?_)
    · (try dsimp only)
      exact HK8.out _ (by first | exact he8 | exact HE8.out | exact HE9.out)
    clear hK K hHeld
    have hHeld := hHeld'
    clear hHeld'
    refine wpAnyH_ready (rs := [8]) (by kernel_rfl) (by simp) ?_
    refine AllReadyH.cons rfl (fun K hK => ?_) AllReadyH.nil
    refine step_putH rfl 58 35 _ _ _ rfl Tryd.underlying58 mb L.length f rfl hm8 (by have := HLEN.out; unfold maxLen; omega) hd (by unfold maxLen; omega) (aggM cs8) rfl rfl ?_
    intro W9 hm9 hg9
    have HE9 := Lib.hid (HE8.out.grown hg9 (fun k hk => by injection hk with hk; exact .inl hk.symm)); have HM9 := Lib.hid hm9; have HG9 := Lib.hid hg9
    clear hm9 hg9
    refine hK.out _ _ ?_ (fun hHeld' => ?_)
    · (try dsimp only)
      exact HK8.out _ (by first | exact he8 | exact HE8.out | exact HE9.out)
    clear hK K hHeld
    have hHeld := hHeld'
    clear hHeld'
    refine wpAnyH_done (by kernel_rfl) ?_ _
    go_wp2
    go_ret
    have hb8' : Below W5.heap.size (W5.setCell ⟨g, 2, none⟩ (.slice A5 (insA gs ⟨hd, l1, l2, l3⟩ L).length c5)) W8 := by
      rw [HW6.out, ← hsz6]; exact ((Below.refl _ W6).drew).trans HB8.out
    obtain ⟨q1, q2⟩ := H3.out.put_ (w3 := W3) (x := ⟨hd, l1, l2, l3⟩) (S9 := NewS W6 W8) (((ChgS.refl _ W3).drewN 1 |>.alloc _).trans HC5.out) HO5.out (by
      rcases HV5.out with e | ⟨k, e, hk⟩
      · exact .inl e
      · exact .inr ⟨k, e, by have : W3.heap.size + 1 ≤ k := by simpa using hk
                             omega⟩) hb8' HX8.out (fun k hk => ⟨by rw [← hsz6]; exact hk.1, hk.2⟩) HM9.out HG9.out HTH.out
    have hsz3 : w.heap.size ≤ W3.heap.size := Nat.le_trans HBW2.out.size HB3.out.size
    refine ⟨rfl, _, _, _, q1, fun k hk => ?_, fun k hk => ?_, (ChgS.of_below (HBW2.out.trans (HB3.out.mono HBW2.out.size))).trans q2⟩
    · rcases hk with hk | hk
      · exact .inl hk
      · refine .inr ?_
        have h5 := HC5.out.size
        have h6 := hk.1
        simp at h5
        omega
    · rcases HV5.out with e | ⟨j, e, hj⟩
      · exact .inl (by rw [← e]; exact hk)
      · refine .inr ?_
        rw [e] at hk
        injection hk with hk
        subst hk
        simp at hj
        omega
end Go.Proofs.YtgkpoopiamicnaaDoor
