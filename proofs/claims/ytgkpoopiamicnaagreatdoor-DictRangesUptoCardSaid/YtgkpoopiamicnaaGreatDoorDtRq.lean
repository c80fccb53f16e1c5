/-
  Layer 40: the reference's Put. Conditions: an article that is read, its texts of the reach; a good dictionary.
-/
import Derived.Test.YtgkpoopiamicnaaGreatDoorDtRc
namespace Go.Proofs.YtgkpoopiamicnaaGreatDoor
open Go.RowKit Go.Lib

theorem artF_one {w : World} {S : Nat → Prop} {x : Art} {cs : List Value} (h : ArtF w S x cs) : ∀ u ∈ cs, u.oneCell' = true := by
  obtain ⟨A1, c1, A2, c2, A3, c3, rfl⟩ := h.form
  intro u hu
  simp only [List.mem_cons, List.not_mem_nil, or_false] at hu
  rcases hu with rfl | rfl | rfl | rfl <;> rfl
theorem rowsF_one {w : World} {S : Nat → Prop} : ∀ {l : List Art} {xs : List Value}, RowsF ArtF w S l xs → ∀ u ∈ xs, u.oneCell' = true
  | [], _, h, u, hu => by subst h; cases hu
  | x :: l, _, ⟨c1, c2, e, h1, h2⟩, u, hu => by
    rw [e, List.mem_append] at hu
    rcases hu with hu | hu
    · exact artF_one h1 u hu
    · exact rowsF_one h2 u hu
/-- Where the loop that looks for a head's place ends. -/
theorem place_end {gs : Grps} {L : List Art} {s : ByteArray} (hg : GoodD gs L) (hs : keyOk gs s) {i : Nat} (hi : i ≤ L.length) (h1 : ∀ k (hk : k < (headsL L).length), k < i → ordT gs (headsL L)[k] s < 0) (h2 : ∀ hk : i < (headsL L).length, ¬ ordT gs (headsL L)[i] s < 0) : placeT gs L s = i := by
  have hl : (headsL L).length = L.length := headsL_len
  refine countP_at (by omega) (fun k hk hki => decide_eq_true (h1 k hk hki)) (fun k hk hki => decide_eq_false fun h => ?_)
  rcases Nat.eq_or_lt_of_le hki with rfl | hlt
  · exact h2 hk h
  · exact h2 (by omega) ((goodO gs).lt_trans (hg.keyAt (by omega)) (hg.keyAt hk) hs (hg.lt hk hlt) h)
theorem reads_take {w : World} {B size n k : Nat} {A : Option Addr} {xs : List Value} (h : Reads w B size A n xs) (hk : k ≤ n) : Reads w B size A k (xs.take (k * size)) := by
  have hx := h.1
  have hm : k * size ≤ n * size := Nat.mul_le_mul_right size hk
  refine ⟨by rw [List.length_take, hx]; omega, fun hn => ?_⟩
  obtain ⟨ad, e, hb, hc⟩ := h.2 (by omega)
  refine ⟨ad, e, hb, fun j u hu => hc j u ?_⟩
  have hj := (List.getElem?_eq_some_iff.1 hu).1
  rw [List.length_take] at hj
  rw [List.getElem?_take_of_lt (by omega)] at hu
  exact hu
theorem reads_drop {w : World} {B size n k : Nat} {A A' : Option Addr} {xs : List Value} (h : Reads w B size A n xs) (hk : k ≤ n) (hA : k < n → A' = A.map (·.add (k * size))) : Reads w B size A' (n - k) (xs.drop (k * size)) := by
  have hx := h.1
  refine ⟨by rw [List.length_drop, hx, Nat.sub_mul], fun hn => ?_⟩
  obtain ⟨ad, rfl, hb, hc⟩ := h.2 (by omega)
  rw [hA (by omega)]
  refine ⟨ad.add (k * size), rfl, by rw [block_of_add]; exact hb, fun j u hu => ?_⟩
  rw [add_of_add]
  rw [List.getElem?_drop] at hu
  exact hc _ _ hu
theorem goodA_short {gs : Grps} {x : Art} (h : GoodA gs x) : ArtShort x := by
  refine ⟨?_, by have := h.texts.1; omega, by have := h.see.1; omega⟩
  have hw := h.word
  unfold wordE at hw
  by_cases h32 : 32 < x.word.length
  · rw [if_pos h32] at hw; omega
  · omega
def PutR (w : World) (B a g : Nat) (gs : Grps) (S : Nat → Prop) (L : List Art) (x : Art) (e : Ending) (w' : World) : Prop :=
  e = .returned (.int .i64 (artE gs L x)) ∧ (artE gs L x ≠ 0 → Below w.heap.size w w') ∧ (artE gs L x = 0 → ∃ lv' S', RDct w' B a g lv' gs S' (insA gs x L) ∧ (∀ b, S' b → S b ∨ w.heap.size ≤ b) ∧ ChgS (fun b => b = g) w w')
section
variable {w w' : World} {B a g : Nat} {lv : Value} {gs : Grps} {S : Nat → Prop} {L : List Art}
theorem RDct.put_ {w10 : World} {A : Option Addr} {n c k N base : Nat} {xs cs8 : List Value} {v10 : Value} {x : Art} (h : RDct w B a g (.slice A n c) gs S L) (hxs : RowsF ArtF w S L xs) (hb : Below w.heap.size w w10)
    (ho : w10.ownsRow base 42 4 v10 N (xs.take (k * 4) ++ cs8 ++ xs.drop (k * 4))) (hN : N = (insA gs x L).length) (hbase : w.heap.size ≤ base) (hx8 : ArtF w10 (NewS w w10) x cs8) (hpl : placeT gs L x.head = k) :
    RDct (w10.setCell ⟨g, 2, none⟩ v10) B a g v10 gs (fun b => S b ∨ (w.heap.size ≤ b ∧ b < w10.heap.size)) (insA gs x L) ∧ ChgS (fun b => b = g) w (w10.setCell ⟨g, 2, none⟩ v10) := by
  have hgl := h.blk.lt
  have hc : ChgS (fun b => b = g) w (w10.setCell ⟨g, 2, none⟩ v10) := (ChgS.of_below (S := fun b => b = g) hb).setCell (p := ⟨g, 2, none⟩) (.inl rfl) v10
  have hset : ChgS (fun b => b = g) w10 (w10.setCell ⟨g, 2, none⟩ v10) := (ChgS.refl (fun b => b = g) w10).setCell (p := ⟨g, 2, none⟩) (.inl rfl) v10
  have hsz : (w10.setCell ⟨g, 2, none⟩ v10).heap.size = w10.heap.size := by simp [World.setCell]
  have ho2 : (w10.setCell ⟨g, 2, none⟩ v10).ownsRow base 42 4 v10 N (xs.take (k * 4) ++ cs8 ++ xs.drop (k * 4)) := own_chgS ho hset (fun q hq e => by have h1 := (ho.lt q hq).1; omega)
  have hold : RowsF ArtF (w10.setCell ⟨g, 2, none⟩ v10) (fun b => S b ∨ (w.heap.size ≤ b ∧ b < w10.heap.size)) L xs := hxs.imp fun y cs hy => hy.keep (fun _ h => .inl h) (keepS_chg hc (fun b hb => (h.cont b hb).2.1) (fun b hb e => (h.cont b hb).2.2 e))
  have hnew : ArtF (w10.setCell ⟨g, 2, none⟩ v10) (fun b => S b ∨ (w.heap.size ≤ b ∧ b < w10.heap.size)) x cs8 := hx8.keep (fun b hb => .inr hb) (keepS_chg hset (fun b hb => hb.2) (fun b hb e => by have := hb.1; omega))
  refine ⟨⟨?_, fun w' hb' => h.alph w' ((hc.below (fun b hb => by rw [hb]; exact h.low.2) h.low.1).trans hb'), h.small, ?_, ⟨Nat.le_trans h.low.1 hc.size, h.low.2⟩, fun b hb => ?_⟩, hc⟩
  · have h6 := (h.blk.below hb hgl).set_ 2 v10
    simp only [List.setIfInBounds_toArray, List.set_cons_zero, List.set_cons_succ] at h6
    exact h6
  · subst hN
    refine slF_own ho2 (fun b hb => .inr ⟨by have h1 := (ho.lt b hb).1; omega, (ho.lt b hb).2⟩) ?_
    unfold insA
    rw [hpl, List.append_assoc]
    exact RowsF.app (RowsF.app (l := [x]) (c1 := cs8) (RowsF.drop_ (fun _ _ h => h.len) k hold) ⟨cs8, [], by simp, hnew, rfl⟩) (RowsF.take_ (fun _ _ h => h.len) k hold)
  · rcases hb with hb | hb
    · obtain ⟨c1, c2, c3⟩ := h.cont b hb
      exact ⟨c1, Nat.lt_of_lt_of_le c2 hc.size, c3⟩
    · exact ⟨Nat.le_trans h.low.1 hb.1, by rw [hsz]; exact hb.2, by have := hb.1; omega⟩
set_option linter.unusedSimpArgs false in
set_option maxRecDepth 20000 in
set_option maxHeartbeats 8000000 in
theorem rput_any40 (h : RDct w B a g lv gs S L) (hg : GoodD gs L) (x : Art) (cs : List Value) (T : Nat → Prop) (hx : ArtF w T x cs) (hT : ∀ b, T b → b < w.heap.size) (hok : ArtOk x) :
    Calls Tryz.prog 15 #[wptr g, aggM cs] w (PutR w B a g gs S L x) := by
  obtain ⟨i0, hi, hz0, hz1, hz2⟩ := info_parts (show (Tryz.prog.info? 42).map (fun i => (i.zero, i.size, i.bytes)) = some (some (.agg #[.string ⟨#[]⟩, .slice none 0 0, .slice none 0 0, .slice none 0 0]), 4, 88) by kernel_rfl)
  have hlen := hg.len
  obtain ⟨X1, y1, X2, y2, X3, y3, rfl⟩ := hx.form
  dsimp only [aggM]
  have hbx := Blk.new w 42 #[.string x.head, .slice X1 x.word.length y1, .slice X2 x.texts.length y2, .slice X3 x.see.length y3]
  have hb0 : Below w.heap.size w (w.alloc (.cells #[.string x.head, .slice X1 x.word.length y1, .slice X2 x.texts.length y2, .slice X3 x.see.length y3] 42)) := (Below.refl _ _).alloc (Nat.le_refl _) _
  obtain ⟨W0, hW0⟩ : ∃ W, w.alloc (.cells #[.string x.head, .slice X1 x.word.length y1, .slice X2 x.texts.length y2, .slice X3 x.see.length y3] 42) = W := ⟨_, rfl⟩
  rw [hW0] at hbx hb0
  obtain ⟨b, hbw⟩ : ∃ b, w.heap.size = b := ⟨_, rfl⟩
  have hb2 : ∀ W, Below W0.heap.size W0 W → Below w.heap.size w W := fun W hW => hb0.trans (hW.mono hb0.size)
  have hxf : ∀ W, Below W0.heap.size W0 W → ArtF W (fun b => b < w.heap.size) x [.string x.head, .slice X1 x.word.length y1, .slice X2 x.texts.length y2, .slice X3 x.see.length y3] := fun W hW => hx.keep hT (keepS_below (hb2 W hW) hT)
  have hcs : ∀ W, Below W0.heap.size W0 W → W.cell? ⟨b, 0, none⟩ = some (.string x.head) ∧ W.cell? ⟨b, 1, none⟩ = some (.slice X1 x.word.length y1) ∧ W.cell? ⟨b, 2, none⟩ = some (.slice X2 x.texts.length y2) ∧ W.cell? ⟨b, 3, none⟩ = some (.slice X3 x.see.length y3) := fun W hW => by
    have y := hbx.below hW hbx.lt
    rw [hbw] at y
    exact ⟨y.cell 0, y.cell 1, y.cell 2, y.cell 3⟩
  have hdd : ∀ W, Below W0.heap.size W0 W → RDct W B a g lv gs S L := fun W hW => h.below (hb2 W hW)
  obtain ⟨A, c, xs, rfl, hc12, hrow, hrows⟩ := id h.list
  have hat : ∀ (i : Nat) (hi : i < L.length) W, Below W0.heap.size W0 W → ∃ ad, A = some ad ∧ W.cell? (ad.add (i * 4)) = some (.string L[i].head) := fun i hi W hW => by
    obtain ⟨ad, Y1, z1, Y2, z2, Y3, z3, e, -, -, hrun⟩ := art_at (hdd W hW).list hi
    exact ⟨ad, e, (hrun W (fun _ _ => rfl)).1⟩
  have hce : ∀ W, Below W0.heap.size W0 W → W.cell? ⟨g, 0, none⟩ = some (.bool true) ∧ W.cell? ⟨g, 1, none⟩ = some (.pointer (some ⟨a, 0, none⟩)) ∧ W.cell? ⟨g, 2, none⟩ = some (.slice A L.length c) := fun W hW => (hdd W hW).cells
  have HAT := Lib.hid hat; have HCE := Lib.hid hce
  have hv := rvalid_any (hdd W0 (Below.refl _ _))
  have hck := rcheck_any (hdd W0 (Below.refl _ _)) x _ _ (hxf W0 (Below.refl _ _)) (fun b hb => Nat.lt_of_lt_of_le hb hb0.size) hok (by omega)
  dsimp only [aggM] at hck
  have hpost : ∀ e w', PutR w B a g gs S L x e w' = (e = .returned (.int .i64 (artE gs L x)) ∧ (artE gs L x ≠ 0 → Below w.heap.size w w') ∧ (artE gs L x = 0 → ∃ lv' S', RDct w' B a g lv' gs S' (insA gs x L) ∧ (∀ b, S' b → S b ∨ w.heap.size ≤ b) ∧ ChgS (fun b => b = g) w w')) := fun _ _ => rfl
  obtain ⟨r, hr⟩ : ∃ r, artE gs L x = r := ⟨_, rfl⟩
  rw [hr] at hck hpost
  have HP := Lib.hid hpost; have HR := Lib.hid hr; have HB2 := Lib.hid hb2; have HXF := Lib.hid hxf; have HCS := Lib.hid hcs; have HDD := Lib.hid hdd; have HH := Lib.hid h; have HG := Lib.hid hg; have HROW := Lib.hid hrow; have HROWS := Lib.hid hrows; have HBW := Lib.hid hbw; have HOK := Lib.hid hok; have HB0 := Lib.hid hb0
  have hcc := hc12.1
  have hcm : c ≤ 9223372036854775807 := by have := hc12.2; unfold maxLen at this; omega
  clear h hg hx hT hok hat hce hbx hb0 hb2 hxf hcs hdd hrow hrows hc12 hpost hr
  go_enter Tryz.func15, Tryz.ntmps15
  go_upto_region 1 with fail
  clear hW0 hbw
  go_wp2_with fail
  refine hv.mono ?_
  rintro e W1 ⟨rfl, rfl⟩
  obtain ⟨k0, k1, k2, k3⟩ := HCS.out W0 (Below.refl _ _)
  clear hv
  go_wp2_with fail
  refine hck.mono ?_
  rintro e W1 ⟨rfl, hb1⟩
  have HB1 := Lib.hid hb1
  clear hck hb1 k0 k1 k2 k3
  by_cases hr0 : r = 0
  case neg =>
    have hrI : (r == 0) = false := beq_false_of_ne hr0
    have HR0 := Lib.hid hr0
    clear hr0
    go_wp2
    go_ret
    show PutR w B a g gs S L x _ _
    rw [HP.out]
    exact ⟨rfl, fun _ => HB2.out _ HB1.out, fun h => absurd h HR0.out⟩
  case pos =>
  subst hr0
  obtain ⟨hga, hno, hfl⟩ := artE_good HR.out HOK.out
  have hkx := hga.key
  have hsx := hga.size
  have HKX := Lib.hid hkx
  obtain ⟨n, hn⟩ : ∃ n, L.length = n := ⟨_, rfl⟩
  have HN := Lib.hid hn
  have hbf := fun i (hi : i < L.length) W (hW : Below W0.heap.size W0 W) => rbefore_any (HDD.out W hW) L[i].head x.head (by have := (HG.out.arts _ (List.getElem_mem hi)).size; omega) (by omega)
  have HBF := Lib.hid hbf
  rw [hn] at hlen hcc HROW HCE
  clear hn hbf hkx
  go_wp2
  go_loopw [6] (fun i wr => ∃ k : Nat, k ≤ n ∧ i = .int .i64 k ∧ (∀ j (hj : j < (headsL L).length), j < k → ordT gs (headsL L)[j] x.head < 0) ∧ Below W0.heap.size W0 wr) (fun i _ => n - (RowKit.intOf i).toNat)
  case atStart => exact ⟨0, by omega, rfl, fun _ _ h => absurd h (by omega), HB1.out⟩
  case round =>
    obtain ⟨k, hk, rfl, hbefore, hbw⟩ := hrel
    have HBE := Lib.hid hbefore; have HBW1 := Lib.hid hbw
    have hkI2 : (k : Int) ≤ (n : Int) := by omega
    clear hbefore hbw
    obtain ⟨z0, z1, z2⟩ := HCE.out wr HBW1.out
    by_cases hlt : k < n
    · have hkI : (k : Int) < (n : Int) := by omega
      have hkl : k < L.length := by rw [HN.out]; exact hlt
      obtain ⟨ad, rfl, hc0⟩ := HAT.out k hkl W0 (Below.refl _ _)
      have hkp : ∀ W, Below W0.heap.size W0 W → W.cell? ⟨g, 2, none⟩ = some (.slice (some ad) n c) ∧ W.cell? ⟨b, 0, none⟩ = some (.string x.head) ∧ W.cell? (ad.add (k * 4)) = some (.string L[k].head) := fun W hW => ⟨(HCE.out W hW).2.2, (HCS.out W hW).1, by
        obtain ⟨ad2, e, h2⟩ := HAT.out k hkl W hW
        injection e with e
        subst e
        exact h2⟩
      have hbf := HBF.out k hkl wr.drew HBW1.out.drew
      have hhk : (headsL L)[k]'(by rw [headsL_len]; exact hkl) = L[k].head := heads_get _
      have HKP := Lib.hid hkp; have HHK := Lib.hid hhk
      obtain ⟨z2', k0, q0⟩ := hkp wr HBW1.out
      clear hkp hhk hc0
      by_cases hor : ordT gs L[k].head x.head < 0
      · rw [decide_eq_true hor] at hbf
        have hb1 : ∀ j (hj : j < (headsL L).length), j < k + 1 → ordT gs (headsL L)[j] x.head < 0 := fun j hj hjk => by
          rcases (by omega : j < k ∨ j = k) with h1 | rfl
          · exact HBE.out j hj h1
          · rw [HHK.out]; exact hor
        have HBE1 := Lib.hid hb1
        obtain ⟨yh, hyh⟩ : ∃ y, L[k].head = y := ⟨_, rfl⟩
        rw [hyh] at hbf HKP q0
        clear hor hb1 hyh HHK
        go_upto_region 7 with fail
        refine wp_region_held_drew (S := (fun W => W.cell? ⟨g, 2, none⟩ = some (.slice (some ad) n c) ∧ W.cell? ⟨b, 0, none⟩ = some (.string x.head) ∧ W.cell? (ad.add (k * 4)) = some (.string yh))) (by kernel_rfl) ?_ (fun hHeld => ?_)
        · (try dsimp only)
          exact HKP.out _ (by first | exact HBW1.out.drew | exact HBW2.out)
        refine wpAnyH_take (i := 0) (v := ?_) rfl (by kernel_rfl) (by kernel_rfl) (by kernel_rfl) (fun _ _ _ h => h) (Or.inl ⟨by rfl, ?_⟩) (by assumption) ?_
        rotate_left
        · intro w hSw
          (try dsimp only at hSw)
          go_simp <;> with_reducible rfl
        try simp only [Act.put, List.getElem_toArray, List.getElem_cons_succ, List.getElem_cons_zero, List.setIfInBounds_toArray, List.set_cons_zero, List.set_cons_succ]
        refine wpAnyH_take (i := 1) (v := ?_) rfl (by kernel_rfl) (by kernel_rfl) (by kernel_rfl) (fun _ _ _ h => h) (Or.inl ⟨by rfl, ?_⟩) (by assumption) ?_
        rotate_left
        · intro w hSw
          (try dsimp only at hSw)
          go_simp <;> with_reducible rfl
        try simp only [Act.put, List.getElem_toArray, List.getElem_cons_succ, List.getElem_cons_zero, List.setIfInBounds_toArray, List.set_cons_zero, List.set_cons_succ]
        refine wpAnyH_take (i := 2) (v := ?_) rfl (by kernel_rfl) (by kernel_rfl) (by kernel_rfl) (fun _ _ _ h => h) (Or.inl ⟨by rfl, ?_⟩) (by assumption) ?_
        rotate_left
        · intro w hSw
          (try dsimp only at hSw)
          go_simp <;> with_reducible rfl
        try simp only [Act.put, List.getElem_toArray, List.getElem_cons_succ, List.getElem_cons_zero, List.setIfInBounds_toArray, List.set_cons_zero, List.set_cons_succ]
        refine wpAnyH_take (i := 3) (v := ?_) rfl (by kernel_rfl) (by kernel_rfl) (by kernel_rfl) (fun _ _ _ h => h) (Or.inl ⟨by rfl, ?_⟩) (by assumption) ?_
        rotate_left
        · intro w hSw
          (try dsimp only at hSw)
          go_simp <;> with_reducible rfl
        try simp only [Act.put, List.getElem_toArray, List.getElem_cons_succ, List.getElem_cons_zero, List.setIfInBounds_toArray, List.set_cons_zero, List.set_cons_succ]
        refine wpAnyH_take (i := 4) (v := ?_) rfl (by kernel_rfl) (by kernel_rfl) (by kernel_rfl) (fun _ _ _ h => h) (Or.inl ⟨by rfl, ?_⟩) (by assumption) ?_
        rotate_left
        · intro w hSw
          (try dsimp only at hSw)
          go_simp <;> with_reducible rfl
        try simp only [Act.put, List.getElem_toArray, List.getElem_cons_succ, List.getElem_cons_zero, List.setIfInBounds_toArray, List.set_cons_zero, List.set_cons_succ]
        refine wpAnyH_take (i := 5) (v := ?_) rfl (by kernel_rfl) (by kernel_rfl) (by kernel_rfl) (fun _ _ _ h => h) (Or.inl ⟨by rfl, ?_⟩) (by assumption) ?_
        rotate_left
        · intro w hSw
          (try dsimp only at hSw)
          go_simp <;> with_reducible rfl
        try simp only [Act.put, List.getElem_toArray, List.getElem_cons_succ, List.getElem_cons_zero, List.setIfInBounds_toArray, List.set_cons_zero, List.set_cons_succ]
        refine wpAnyH_take (i := 6) (v := ?_) rfl (by kernel_rfl) (by kernel_rfl) (by kernel_rfl) (fun _ _ _ h => h) (Or.inl ⟨by rfl, ?_⟩) (by assumption) ?_
        rotate_left
        · intro w hSw
          (try dsimp only at hSw)
          go_simp <;> with_reducible rfl
        try simp only [Act.put, List.getElem_toArray, List.getElem_cons_succ, List.getElem_cons_zero, List.setIfInBounds_toArray, List.set_cons_zero, List.set_cons_succ]
        refine wpAnyH_take (i := 7) (v := ?_) rfl (by kernel_rfl) (by kernel_rfl) (by kernel_rfl) (fun _ _ _ h => h) (Or.inl ⟨by rfl, ?_⟩) (by assumption) ?_
        rotate_left
        · intro w hSw
          (try dsimp only at hSw)
          go_simp <;> with_reducible rfl
        try simp only [Act.put, List.getElem_toArray, List.getElem_cons_succ, List.getElem_cons_zero, List.setIfInBounds_toArray, List.set_cons_zero, List.set_cons_succ]
        refine wpAnyH_take (i := 8) (v := ?_) rfl (by kernel_rfl) (by kernel_rfl) (by kernel_rfl) (fun _ _ _ h => h) (Or.inl ⟨by rfl, ?_⟩) (by assumption) ?_
        rotate_left
        · intro w hSw
          (try dsimp only at hSw)
          go_simp <;> with_reducible rfl
        try simp only [Act.put, List.getElem_toArray, List.getElem_cons_succ, List.getElem_cons_zero, List.setIfInBounds_toArray, List.set_cons_zero, List.set_cons_succ]
        refine wpAnyH_take (i := 9) (v := ?_) rfl (by kernel_rfl) (by kernel_rfl) (by kernel_rfl) (fun _ _ _ h => h) (Or.inl ⟨by rfl, ?_⟩) (by assumption) ?_
        rotate_left
        · intro w hSw
          (try dsimp only at hSw)
          go_simp <;> with_reducible rfl
        try simp only [Act.put, List.getElem_toArray, List.getElem_cons_succ, List.getElem_cons_zero, List.setIfInBounds_toArray, List.set_cons_zero, List.set_cons_succ]
        refine wpAnyH_take (i := 10) (v := ?_) rfl (by kernel_rfl) (by kernel_rfl) (by kernel_rfl) (fun _ _ _ h => h) (Or.inl ⟨by rfl, ?_⟩) (by assumption) ?_
        rotate_left
        · intro w hSw
          (try dsimp only at hSw)
          go_simp <;> with_reducible rfl
        try simp only [Act.put, List.getElem_toArray, List.getElem_cons_succ, List.getElem_cons_zero, List.setIfInBounds_toArray, List.set_cons_zero, List.set_cons_succ]
        refine wpAnyH_take (i := 11) (v := ?_) rfl (by kernel_rfl) (by kernel_rfl) (by kernel_rfl) (fun _ _ _ h => h) (Or.inl ⟨by rfl, ?_⟩) (by assumption) ?_
        rotate_left
        · intro w hSw
          (try dsimp only at hSw)
          go_simp <;> with_reducible rfl
        try simp only [Act.put, List.getElem_toArray, List.getElem_cons_succ, List.getElem_cons_zero, List.setIfInBounds_toArray, List.set_cons_zero, List.set_cons_succ]
        refine wpAnyH_take (i := 12) (v := ?_) rfl (by kernel_rfl) (by kernel_rfl) (by kernel_rfl) (fun _ _ _ h => h) (Or.inl ⟨by rfl, ?_⟩) (by assumption) ?_
        rotate_left
        · intro w hSw
          (try dsimp only at hSw)
          go_simp <;> with_reducible rfl
        try simp only [Act.put, List.getElem_toArray, List.getElem_cons_succ, List.getElem_cons_zero, List.setIfInBounds_toArray, List.set_cons_zero, List.set_cons_succ]
        refine wpAnyH_take (i := 13) (v := ?_) rfl (by kernel_rfl) (by kernel_rfl) (by kernel_rfl) (fun _ _ _ h => h) (Or.inl ⟨by rfl, ?_⟩) (by assumption) ?_
        rotate_left
        · intro w hSw
          (try dsimp only at hSw)
          go_simp <;> with_reducible rfl
        try simp only [Act.put, List.getElem_toArray, List.getElem_cons_succ, List.getElem_cons_zero, List.setIfInBounds_toArray, List.set_cons_zero, List.set_cons_succ]
        refine wpAnyH_take (i := 14) (v := ?_) rfl (by kernel_rfl) (by kernel_rfl) (by kernel_rfl) (fun _ _ _ h => h) (Or.inl ⟨by rfl, ?_⟩) (by assumption) ?_
        rotate_left
        · intro w hSw
          (try dsimp only at hSw)
          go_simp <;> with_reducible rfl
        try simp only [Act.put, List.getElem_toArray, List.getElem_cons_succ, List.getElem_cons_zero, List.setIfInBounds_toArray, List.set_cons_zero, List.set_cons_succ]
        refine wpAnyH_take (i := 15) (v := ?_) rfl (by kernel_rfl) (by kernel_rfl) (by kernel_rfl) (fun _ _ _ h => h) (Or.inl ⟨by rfl, ?_⟩) (by assumption) ?_
        rotate_left
        · intro w hSw
          (try dsimp only at hSw)
          go_simp <;> with_reducible rfl
        try simp only [Act.put, List.getElem_toArray, List.getElem_cons_succ, List.getElem_cons_zero, List.setIfInBounds_toArray, List.set_cons_zero, List.set_cons_succ]
        refine wpAnyH_take (i := 16) (v := ?_) rfl (by kernel_rfl) (by kernel_rfl) (by kernel_rfl) (fun _ _ _ h => h) (Or.inl ⟨by rfl, ?_⟩) (by assumption) ?_
        rotate_left
        · intro w hSw
          (try dsimp only at hSw)
          go_simp <;> with_reducible rfl
        try simp only [Act.put, List.getElem_toArray, List.getElem_cons_succ, List.getElem_cons_zero, List.setIfInBounds_toArray, List.set_cons_zero, List.set_cons_succ]
        refine wpAnyH_take (i := 17) (v := ?_) rfl (by kernel_rfl) (by kernel_rfl) (by kernel_rfl) (fun _ _ _ h => h) (Or.inl ⟨by rfl, ?_⟩) (by assumption) ?_
        rotate_left
        · intro w hSw
          (try dsimp only at hSw)
          go_simp <;> with_reducible rfl
        try simp only [Act.put, List.getElem_toArray, List.getElem_cons_succ, List.getElem_cons_zero, List.setIfInBounds_toArray, List.set_cons_zero, List.set_cons_succ]
        refine wpAnyH_take (i := 18) (v := ?_) rfl (by kernel_rfl) (by kernel_rfl) (by kernel_rfl) (fun _ _ _ h => h) (Or.inl ⟨by rfl, ?_⟩) (by assumption) ?_
        rotate_left
        · intro w hSw
          (try dsimp only at hSw)
          go_simp <;> with_reducible rfl
        try simp only [Act.put, List.getElem_toArray, List.getElem_cons_succ, List.getElem_cons_zero, List.setIfInBounds_toArray, List.set_cons_zero, List.set_cons_succ]
        refine wpAnyH_ready (rs := [19]) (by kernel_rfl) (by simp) ?_
        refine AllReadyH.cons rfl (fun K hK => ?_) AllReadyH.nil
        go_simp
        (try go_wp2_with fail)
        refine hbf.mono ?_
        rintro e W3 ⟨rfl, hb3⟩
        have HBW2 := Lib.hid (HBW1.out.drew.trans (hb3.mono HBW1.out.drew.size))
        clear hb3
        (try go_simp)
        refine hK.out _ _ ?_ (fun hHeld' => ?_)
        · (try dsimp only)
          exact HKP.out _ (by first | exact HBW1.out.drew | exact HBW2.out)
        clear hK K hHeld
        have hHeld := hHeld'
        clear hHeld'
        refine wpAnyH_take (i := 20) (v := ?_) rfl (by kernel_rfl) (by kernel_rfl) (by kernel_rfl) (fun _ _ _ h => h) (Or.inl ⟨by rfl, ?_⟩) (by assumption) ?_
        rotate_left
        · intro w hSw
          (try dsimp only at hSw)
          go_simp <;> with_reducible rfl
        try simp only [Act.put, List.getElem_toArray, List.getElem_cons_succ, List.getElem_cons_zero, List.setIfInBounds_toArray, List.set_cons_zero, List.set_cons_succ]
        refine wpAnyH_done (by kernel_rfl) ?_ _
        clear hHeld z2' k0 q0 z0 z1 z2
        go_wp2
        go_roundw
        case rel => exact ⟨k + 1, by omega, by go_num, HBE1.out, HBW2.out⟩
        case measure => simp [RowKit.intOf]; omega
      · rw [decide_eq_false hor] at hbf
        have hpl : placeT gs L x.head = k := place_end HG.out HKX.out (by omega) HBE.out fun hk2 => by rw [HHK.out]; exact hor
        have HPL := Lib.hid hpl
        obtain ⟨yh, hyh⟩ : ∃ y, L[k].head = y := ⟨_, rfl⟩
        rw [hyh] at hbf HKP q0
        clear hor hpl hyh HHK
        go_upto_region 7 with fail
        refine wp_region_held_drew (S := (fun W => W.cell? ⟨g, 2, none⟩ = some (.slice (some ad) n c) ∧ W.cell? ⟨b, 0, none⟩ = some (.string x.head) ∧ W.cell? (ad.add (k * 4)) = some (.string yh))) (by kernel_rfl) ?_ (fun hHeld => ?_)
        · (try dsimp only)
          exact HKP.out _ (by first | exact HBW1.out.drew | exact HBW2.out)
        refine wpAnyH_take (i := 0) (v := ?_) rfl (by kernel_rfl) (by kernel_rfl) (by kernel_rfl) (fun _ _ _ h => h) (Or.inl ⟨by rfl, ?_⟩) (by assumption) ?_
        rotate_left
        · intro w hSw
          (try dsimp only at hSw)
          go_simp <;> with_reducible rfl
        try simp only [Act.put, List.getElem_toArray, List.getElem_cons_succ, List.getElem_cons_zero, List.setIfInBounds_toArray, List.set_cons_zero, List.set_cons_succ]
        refine wpAnyH_take (i := 1) (v := ?_) rfl (by kernel_rfl) (by kernel_rfl) (by kernel_rfl) (fun _ _ _ h => h) (Or.inl ⟨by rfl, ?_⟩) (by assumption) ?_
        rotate_left
        · intro w hSw
          (try dsimp only at hSw)
          go_simp <;> with_reducible rfl
        try simp only [Act.put, List.getElem_toArray, List.getElem_cons_succ, List.getElem_cons_zero, List.setIfInBounds_toArray, List.set_cons_zero, List.set_cons_succ]
        refine wpAnyH_take (i := 2) (v := ?_) rfl (by kernel_rfl) (by kernel_rfl) (by kernel_rfl) (fun _ _ _ h => h) (Or.inl ⟨by rfl, ?_⟩) (by assumption) ?_
        rotate_left
        · intro w hSw
          (try dsimp only at hSw)
          go_simp <;> with_reducible rfl
        try simp only [Act.put, List.getElem_toArray, List.getElem_cons_succ, List.getElem_cons_zero, List.setIfInBounds_toArray, List.set_cons_zero, List.set_cons_succ]
        refine wpAnyH_take (i := 3) (v := ?_) rfl (by kernel_rfl) (by kernel_rfl) (by kernel_rfl) (fun _ _ _ h => h) (Or.inl ⟨by rfl, ?_⟩) (by assumption) ?_
        rotate_left
        · intro w hSw
          (try dsimp only at hSw)
          go_simp <;> with_reducible rfl
        try simp only [Act.put, List.getElem_toArray, List.getElem_cons_succ, List.getElem_cons_zero, List.setIfInBounds_toArray, List.set_cons_zero, List.set_cons_succ]
        refine wpAnyH_take (i := 4) (v := ?_) rfl (by kernel_rfl) (by kernel_rfl) (by kernel_rfl) (fun _ _ _ h => h) (Or.inl ⟨by rfl, ?_⟩) (by assumption) ?_
        rotate_left
        · intro w hSw
          (try dsimp only at hSw)
          go_simp <;> with_reducible rfl
        try simp only [Act.put, List.getElem_toArray, List.getElem_cons_succ, List.getElem_cons_zero, List.setIfInBounds_toArray, List.set_cons_zero, List.set_cons_succ]
        refine wpAnyH_take (i := 5) (v := ?_) rfl (by kernel_rfl) (by kernel_rfl) (by kernel_rfl) (fun _ _ _ h => h) (Or.inl ⟨by rfl, ?_⟩) (by assumption) ?_
        rotate_left
        · intro w hSw
          (try dsimp only at hSw)
          go_simp <;> with_reducible rfl
        try simp only [Act.put, List.getElem_toArray, List.getElem_cons_succ, List.getElem_cons_zero, List.setIfInBounds_toArray, List.set_cons_zero, List.set_cons_succ]
        refine wpAnyH_take (i := 6) (v := ?_) rfl (by kernel_rfl) (by kernel_rfl) (by kernel_rfl) (fun _ _ _ h => h) (Or.inl ⟨by rfl, ?_⟩) (by assumption) ?_
        rotate_left
        · intro w hSw
          (try dsimp only at hSw)
          go_simp <;> with_reducible rfl
        try simp only [Act.put, List.getElem_toArray, List.getElem_cons_succ, List.getElem_cons_zero, List.setIfInBounds_toArray, List.set_cons_zero, List.set_cons_succ]
        refine wpAnyH_take (i := 7) (v := ?_) rfl (by kernel_rfl) (by kernel_rfl) (by kernel_rfl) (fun _ _ _ h => h) (Or.inl ⟨by rfl, ?_⟩) (by assumption) ?_
        rotate_left
        · intro w hSw
          (try dsimp only at hSw)
          go_simp <;> with_reducible rfl
        try simp only [Act.put, List.getElem_toArray, List.getElem_cons_succ, List.getElem_cons_zero, List.setIfInBounds_toArray, List.set_cons_zero, List.set_cons_succ]
        refine wpAnyH_take (i := 8) (v := ?_) rfl (by kernel_rfl) (by kernel_rfl) (by kernel_rfl) (fun _ _ _ h => h) (Or.inl ⟨by rfl, ?_⟩) (by assumption) ?_
        rotate_left
        · intro w hSw
          (try dsimp only at hSw)
          go_simp <;> with_reducible rfl
        try simp only [Act.put, List.getElem_toArray, List.getElem_cons_succ, List.getElem_cons_zero, List.setIfInBounds_toArray, List.set_cons_zero, List.set_cons_succ]
        refine wpAnyH_take (i := 9) (v := ?_) rfl (by kernel_rfl) (by kernel_rfl) (by kernel_rfl) (fun _ _ _ h => h) (Or.inl ⟨by rfl, ?_⟩) (by assumption) ?_
        rotate_left
        · intro w hSw
          (try dsimp only at hSw)
          go_simp <;> with_reducible rfl
        try simp only [Act.put, List.getElem_toArray, List.getElem_cons_succ, List.getElem_cons_zero, List.setIfInBounds_toArray, List.set_cons_zero, List.set_cons_succ]
        refine wpAnyH_take (i := 10) (v := ?_) rfl (by kernel_rfl) (by kernel_rfl) (by kernel_rfl) (fun _ _ _ h => h) (Or.inl ⟨by rfl, ?_⟩) (by assumption) ?_
        rotate_left
        · intro w hSw
          (try dsimp only at hSw)
          go_simp <;> with_reducible rfl
        try simp only [Act.put, List.getElem_toArray, List.getElem_cons_succ, List.getElem_cons_zero, List.setIfInBounds_toArray, List.set_cons_zero, List.set_cons_succ]
        refine wpAnyH_take (i := 11) (v := ?_) rfl (by kernel_rfl) (by kernel_rfl) (by kernel_rfl) (fun _ _ _ h => h) (Or.inl ⟨by rfl, ?_⟩) (by assumption) ?_
        rotate_left
        · intro w hSw
          (try dsimp only at hSw)
          go_simp <;> with_reducible rfl
        try simp only [Act.put, List.getElem_toArray, List.getElem_cons_succ, List.getElem_cons_zero, List.setIfInBounds_toArray, List.set_cons_zero, List.set_cons_succ]
        refine wpAnyH_take (i := 12) (v := ?_) rfl (by kernel_rfl) (by kernel_rfl) (by kernel_rfl) (fun _ _ _ h => h) (Or.inl ⟨by rfl, ?_⟩) (by assumption) ?_
        rotate_left
        · intro w hSw
          (try dsimp only at hSw)
          go_simp <;> with_reducible rfl
        try simp only [Act.put, List.getElem_toArray, List.getElem_cons_succ, List.getElem_cons_zero, List.setIfInBounds_toArray, List.set_cons_zero, List.set_cons_succ]
        refine wpAnyH_take (i := 13) (v := ?_) rfl (by kernel_rfl) (by kernel_rfl) (by kernel_rfl) (fun _ _ _ h => h) (Or.inl ⟨by rfl, ?_⟩) (by assumption) ?_
        rotate_left
        · intro w hSw
          (try dsimp only at hSw)
          go_simp <;> with_reducible rfl
        try simp only [Act.put, List.getElem_toArray, List.getElem_cons_succ, List.getElem_cons_zero, List.setIfInBounds_toArray, List.set_cons_zero, List.set_cons_succ]
        refine wpAnyH_take (i := 14) (v := ?_) rfl (by kernel_rfl) (by kernel_rfl) (by kernel_rfl) (fun _ _ _ h => h) (Or.inl ⟨by rfl, ?_⟩) (by assumption) ?_
        rotate_left
        · intro w hSw
          (try dsimp only at hSw)
          go_simp <;> with_reducible rfl
        try simp only [Act.put, List.getElem_toArray, List.getElem_cons_succ, List.getElem_cons_zero, List.setIfInBounds_toArray, List.set_cons_zero, List.set_cons_succ]
        refine wpAnyH_take (i := 15) (v := ?_) rfl (by kernel_rfl) (by kernel_rfl) (by kernel_rfl) (fun _ _ _ h => h) (Or.inl ⟨by rfl, ?_⟩) (by assumption) ?_
        rotate_left
        · intro w hSw
          (try dsimp only at hSw)
          go_simp <;> with_reducible rfl
        try simp only [Act.put, List.getElem_toArray, List.getElem_cons_succ, List.getElem_cons_zero, List.setIfInBounds_toArray, List.set_cons_zero, List.set_cons_succ]
        refine wpAnyH_take (i := 16) (v := ?_) rfl (by kernel_rfl) (by kernel_rfl) (by kernel_rfl) (fun _ _ _ h => h) (Or.inl ⟨by rfl, ?_⟩) (by assumption) ?_
        rotate_left
        · intro w hSw
          (try dsimp only at hSw)
          go_simp <;> with_reducible rfl
        try simp only [Act.put, List.getElem_toArray, List.getElem_cons_succ, List.getElem_cons_zero, List.setIfInBounds_toArray, List.set_cons_zero, List.set_cons_succ]
        refine wpAnyH_take (i := 17) (v := ?_) rfl (by kernel_rfl) (by kernel_rfl) (by kernel_rfl) (fun _ _ _ h => h) (Or.inl ⟨by rfl, ?_⟩) (by assumption) ?_
        rotate_left
        · intro w hSw
          (try dsimp only at hSw)
          go_simp <;> with_reducible rfl
        try simp only [Act.put, List.getElem_toArray, List.getElem_cons_succ, List.getElem_cons_zero, List.setIfInBounds_toArray, List.set_cons_zero, List.set_cons_succ]
        refine wpAnyH_take (i := 18) (v := ?_) rfl (by kernel_rfl) (by kernel_rfl) (by kernel_rfl) (fun _ _ _ h => h) (Or.inl ⟨by rfl, ?_⟩) (by assumption) ?_
        rotate_left
        · intro w hSw
          (try dsimp only at hSw)
          go_simp <;> with_reducible rfl
        try simp only [Act.put, List.getElem_toArray, List.getElem_cons_succ, List.getElem_cons_zero, List.setIfInBounds_toArray, List.set_cons_zero, List.set_cons_succ]
        refine wpAnyH_ready (rs := [19]) (by kernel_rfl) (by simp) ?_
        refine AllReadyH.cons rfl (fun K hK => ?_) AllReadyH.nil
        go_simp
        (try go_wp2_with fail)
        refine hbf.mono ?_
        rintro e W3 ⟨rfl, hb3⟩
        have HBW2 := Lib.hid (HBW1.out.drew.trans (hb3.mono HBW1.out.drew.size))
        clear hb3
        (try go_simp)
        refine hK.out _ _ ?_ (fun hHeld' => ?_)
        · (try dsimp only)
          exact HKP.out _ (by first | exact HBW1.out.drew | exact HBW2.out)
        clear hK K hHeld
        have hHeld := hHeld'
        clear hHeld'
        refine wpAnyH_take (i := 20) (v := ?_) rfl (by kernel_rfl) (by kernel_rfl) (by kernel_rfl) (fun _ _ _ h => h) (Or.inl ⟨by rfl, ?_⟩) (by assumption) ?_
        rotate_left
        · intro w hSw
          (try dsimp only at hSw)
          go_simp <;> with_reducible rfl
        try simp only [Act.put, List.getElem_toArray, List.getElem_cons_succ, List.getElem_cons_zero, List.setIfInBounds_toArray, List.set_cons_zero, List.set_cons_succ]
        refine wpAnyH_done (by kernel_rfl) ?_ _
        clear hHeld z2' k0 q0 z0 z1 z2
        have hrd : ∀ W, Below W0.heap.size W0 W → Reads W w.heap.size 4 (some ad) n xs := fun W hW => (HROW.out.reads (B := w.heap.size) (fun b hb => (HH.out.cont b hb).2.1)).below (HB2.out W hW)
        have hone := rowsF_one HROWS.out
        have HRD := Lib.hid hrd; have HONE := Lib.hid hone
        have HSH := Lib.hid (goodA_short hga)
        have hs9 : Below W3.heap.size W3 (W3.alloc (.cells #[] 42)) := (Below.refl _ _).alloc (Nat.le_refl _) _
        have HS9 := Lib.hid hs9
        have HO9 := Lib.hid (own_empty40 W3 42 4)
        have hw3 : w.heap.size ≤ W3.heap.size := (HB2.out W3 HBW2.out).size
        have HW3 := Lib.hid hw3
        clear hrd hone hs9 hw3
        go_upto_region 9 with fail
        have z2 := (HCE.out _ (HBW2.out.trans (HS9.out.mono HBW2.out.size))).2.2
        have hkc : (k : Int) ≤ (c : Int) := by omega
        go_upto_region 10 with (at_builtin; go_loud (refine wpList_append_any _ rfl _ _ 23 rfl W3.heap.size 42 i0 (.agg #[.string ⟨#[]⟩, .slice none 0 0, .slice none 0 0, .slice none 0 0]) 4 88 Tryz.underlying23 hi hz0 hz1 hz2 rfl (by decide) _ _ _ rfl HO9.out w.heap.size (some ad) k c (xs.take (k * 4)) rfl (reads_take (HRD.out _ (HBW2.out.trans (HS9.out.mono HBW2.out.size))) hk) (fun u hu => HONE.out u (List.mem_of_mem_take hu)) (by unfold maxLen; omega) (by omega) (by simp) ?_; intro v7 w7 ho7 hg7 hx7; rw [Nat.zero_add, List.nil_append] at ho7; have HO7 := Lib.hid ho7; have HB7 := Lib.hid ((HBW2.out.trans (HS9.out.mono HBW2.out.size)).grown hg7 (by have := HBW2.out.size; simp; omega) (fun q hq => by have h1 := (HO9.out.lt q hq).1; have h2 := HBW2.out.size; omega)); have HZ7 := Lib.hid (show W3.heap.size ≤ w7.heap.size by have := hg7.size; simp at this; omega); clear ho7 hg7 hx7))
        clear z2
        obtain ⟨k0, k1, k2, k3⟩ := HCS.out w7 HB7.out
        have hcp := rcopied_any (HXF.out w7 HB7.out) (fun b hb => Nat.lt_of_lt_of_le hb (HB2.out _ HB7.out).size) HSH.out
        dsimp only [aggM] at hcp
        go_wp2_with fail
        refine hcp.mono ?_
        rintro e w8 ⟨cs8, rfl, hx8, hb8⟩
        obtain ⟨Z1, z1, Z2, z2, Z3, z3, rfl⟩ := hx8.form
        dsimp only [aggM]
        have HO8 := Lib.hid (own_below HO7.out hb8)
        have HRN := Lib.hid (reads_newk w8 42 [.string x.head, .slice Z1 x.word.length z1, .slice Z2 x.texts.length z2, .slice Z3 x.see.length z3] 4 1 rfl)
        have HX8 := Lib.hid hx8; have HB8 := Lib.hid (HB7.out.trans (hb8.mono HB7.out.size)); have HZ8 := Lib.hid hb8.size
        clear hcp hx8 hb8 k0 k1 k2 k3
        obtain ⟨A7, c7, rfl, -, -⟩ := ownsRow_form HO7.out
        go_upto_region 11 with (at_builtin; go_loud (refine wpList_append_any _ rfl _ _ 23 rfl W3.heap.size 42 i0 (.agg #[.string ⟨#[]⟩, .slice none 0 0, .slice none 0 0, .slice none 0 0]) 4 88 Tryz.underlying23 hi hz0 hz1 hz2 rfl (by decide) _ _ _ rfl (HO8.out.alloc _) _ _ _ _ [.string x.head, .slice Z1 x.word.length z1, .slice Z2 x.texts.length z2, .slice Z3 x.see.length z3] rfl HRN.out (by intro u hu; simp only [List.mem_cons, List.not_mem_nil, or_false] at hu; rcases hu with rfl | rfl | rfl | rfl <;> rfl) (by unfold maxLen; omega) (by omega) (by have h1 := HZ7.out; have h2 := HZ8.out; simp; omega) ?_; intro v9 w9 ho9 hg9 hx9; have HB9 := Lib.hid ((HB8.out.alloc HB8.out.size (.cells #[.string x.head, .slice Z1 x.word.length z1, .slice Z2 x.texts.length z2, .slice Z3 x.see.length z3] 42)).grown hg9 (by have := HB8.out.size; simp; omega) (fun q hq => by have h1 := (HO8.out.lt q hq).1; have h2 := HBW2.out.size; omega)); have HG9 := Lib.hid hg9; have HOO := Lib.hid ho9; have HXB9 := Lib.hid hx9; have HZ9 := Lib.hid (show w8.heap.size ≤ w9.heap.size by have := hg9.size; simp at this; omega); clear ho9 hg9 hx9))
        obtain ⟨A9, c9, rfl, -, -⟩ := ownsRow_form HOO.out
        have zg2 := (HCE.out w9 HB9.out).2.2
        have hkc2 : (k : Int) ≤ (c : Int) := by omega
        have hgW : g < W0.heap.size := Nat.lt_of_lt_of_le HH.out.blk.lt HB0.out.size
        have HGW := Lib.hid hgW
        clear hgW
        go_wp2_with (at_builtin; go_loud (refine wpList_append_any _ rfl _ _ 23 rfl W3.heap.size 42 i0 (.agg #[.string ⟨#[]⟩, .slice none 0 0, .slice none 0 0, .slice none 0 0]) 4 88 Tryz.underlying23 hi hz0 hz1 hz2 rfl (by decide) _ _ _ rfl HOO.out w.heap.size _ (n - k) _ (xs.drop (k * 4)) rfl (reads_drop (HRD.out _ HB9.out) hk (fun h => by first | rfl | (exfalso; omega))) (fun u hu => HONE.out u (List.mem_of_mem_drop hu)) (by unfold maxLen; omega) (by omega) (by have h1 := HZ7.out; have h2 := HZ8.out; have h3 := HZ9.out; omega) ?_; intro v10 w10 ho10 hg10 hx10; obtain ⟨A10, c10, rfl, -, -⟩ := ownsRow_form ho10; have hbg := (HDD.out w9 HB9.out).blk.grown hg10 (fun e => by have h1 := (HOO.out.lt g e.symm).1; have h2 := HGW.out; have h3 := HBW2.out.size; omega); have yg := hbg.cell 2; have fg := hbg.frozen 2; simp only [List.getElem?_toArray, List.getElem?_cons_zero, List.getElem?_cons_succ] at yg; have HO10 := Lib.hid ho10; have HG10 := Lib.hid hg10; clear ho10 hg10 hx10 hbg))
        all_goals
          have hx9 : ArtF w9 (NewS w7 w8) x [.string x.head, .slice Z1 x.word.length z1, .slice Z2 x.texts.length z2, .slice Z3 x.see.length z3] := HX8.out.keep (fun _ h => h) (fun q hq => by
            have h1 := HG9.out.block q.block (by have := hq.2; simp; omega) (fun e => by have h2 := (HO7.out.lt q.block e.symm).2; have h3 := hq.1; omega)
            unfold World.cell?
            rw [h1, Below.heap_alloc _ _ _ hq.2])
          have hx10 : ArtF w10 (NewS w7 w8) x [.string x.head, .slice Z1 x.word.length z1, .slice Z2 x.texts.length z2, .slice Z3 x.see.length z3] := hx9.keep (fun _ h => h) (fun q hq => World.cell?_of_block (HG10.out.block q.block (by have h1 := hq.2; have h2 := HZ9.out; omega) (fun e => by
            rcases HXB9.out with e2 | e2
            · have h2 := (HO7.out.lt q.block (e.trans e2).symm).2; have h3 := hq.1; omega
            · have e3 := e.trans e2
              injection e3 with e3
              have h3 := hq.2
              simp at e3
              omega)))
          have hb10 : Below w.heap.size w w10 := (HB2.out w9 HB9.out).grown HG10.out (HB2.out w9 HB9.out).size (fun q hq => by have h1 := (HOO.out.lt q hq).1; have h2 := HW3.out; omega)
          have hfin := RDct.put_ HH.out HROWS.out hb10 HO10.out (by rw [insA_len, HN.out]; omega) HW3.out (hx10.keep (S' := NewS w w10) (fun b hb => ⟨Nat.le_trans (HB2.out w7 HB7.out).size hb.1, by have h1 := hb.2; have h2 := HZ9.out; have h3 := HG10.out.size; omega⟩) (fun _ _ => rfl)) HPL.out
          have HF := Lib.hid hfin
          clear hx9 hx10 hb10 hfin
          go_wp2
          go_ret
          show PutR w B a g gs S L x _ _
          rw [HP.out]
          exact ⟨rfl, fun h => absurd rfl h, fun _ => ⟨_, _, HF.out.1, fun b hb => hb.imp (fun h => h) (fun h => h.1), HF.out.2⟩⟩
    · have hkn : ¬ (k : Int) < (n : Int) := by omega
      have hpl : placeT gs L x.head = k := place_end HG.out HKX.out (by rw [HN.out]; omega) HBE.out fun hk2 => by rw [headsL_len, HN.out] at hk2; omega
      have HPL := Lib.hid hpl
      have hkp : ∀ W, Below W0.heap.size W0 W → W.cell? ⟨g, 2, none⟩ = some (.slice A n c) := fun W hW => (HCE.out W hW).2.2
      have HKP := Lib.hid hkp
      have z2' := hkp wr HBW1.out
      clear hpl z0 z1 z2 hkp
      go_upto_region 7 with fail
      refine wp_region_held_drew (S := (fun W => W.cell? ⟨g, 2, none⟩ = some (.slice A n c))) (by kernel_rfl) ?_ (fun hHeld => ?_)
      · (try dsimp only)
        exact HKP.out _ HBW1.out.drew
      refine wpAnyH_take (i := 0) (v := ?_) rfl (by kernel_rfl) (by kernel_rfl) (by kernel_rfl) (fun _ _ _ h => h) (Or.inl ⟨by rfl, ?_⟩) (by assumption) ?_
      rotate_left
      · intro w hSw
        (try dsimp only at hSw)
        go_simp <;> with_reducible rfl
      try simp only [Act.put, List.getElem_toArray, List.getElem_cons_succ, List.getElem_cons_zero, List.setIfInBounds_toArray, List.set_cons_zero, List.set_cons_succ]
      refine wpAnyH_take (i := 1) (v := ?_) rfl (by kernel_rfl) (by kernel_rfl) (by kernel_rfl) (fun _ _ _ h => h) (Or.inl ⟨by rfl, ?_⟩) (by assumption) ?_
      rotate_left
      · intro w hSw
        (try dsimp only at hSw)
        go_simp <;> with_reducible rfl
      try simp only [Act.put, List.getElem_toArray, List.getElem_cons_succ, List.getElem_cons_zero, List.setIfInBounds_toArray, List.set_cons_zero, List.set_cons_succ]
      refine wpAnyH_take (i := 2) (v := ?_) rfl (by kernel_rfl) (by kernel_rfl) (by kernel_rfl) (fun _ _ _ h => h) (Or.inl ⟨by rfl, ?_⟩) (by assumption) ?_
      rotate_left
      · intro w hSw
        (try dsimp only at hSw)
        go_simp <;> with_reducible rfl
      try simp only [Act.put, List.getElem_toArray, List.getElem_cons_succ, List.getElem_cons_zero, List.setIfInBounds_toArray, List.set_cons_zero, List.set_cons_succ]
      refine wpAnyH_take (i := 3) (v := ?_) rfl (by kernel_rfl) (by kernel_rfl) (by kernel_rfl) (fun _ _ _ h => h) (Or.inl ⟨by rfl, ?_⟩) (by assumption) ?_
      rotate_left
      · intro w hSw
        (try dsimp only at hSw)
        go_simp <;> with_reducible rfl
      try simp only [Act.put, List.getElem_toArray, List.getElem_cons_succ, List.getElem_cons_zero, List.setIfInBounds_toArray, List.set_cons_zero, List.set_cons_succ]
      refine wpAnyH_take (i := 4) (v := ?_) rfl (by kernel_rfl) (by kernel_rfl) (by kernel_rfl) (fun _ _ _ h => h) (Or.inl ⟨by rfl, ?_⟩) (by assumption) ?_
      rotate_left
      · intro w hSw
        (try dsimp only at hSw)
        go_simp <;> with_reducible rfl
      try simp only [Act.put, List.getElem_toArray, List.getElem_cons_succ, List.getElem_cons_zero, List.setIfInBounds_toArray, List.set_cons_zero, List.set_cons_succ]
      refine wpAnyH_take (i := 5) (v := ?_) rfl (by kernel_rfl) (by kernel_rfl) (by kernel_rfl) (fun _ _ _ h => h) (Or.inl ⟨by rfl, ?_⟩) (by assumption) ?_
      rotate_left
      · intro w hSw
        (try dsimp only at hSw)
        go_simp <;> with_reducible rfl
      try simp only [Act.put, List.getElem_toArray, List.getElem_cons_succ, List.getElem_cons_zero, List.setIfInBounds_toArray, List.set_cons_zero, List.set_cons_succ]
      refine wpAnyH_take (i := 6) (v := ?_) rfl (by kernel_rfl) (by kernel_rfl) (by kernel_rfl) (fun _ _ _ h => h) (Or.inl ⟨by rfl, ?_⟩) (by assumption) ?_
      rotate_left
      · intro w hSw
        (try dsimp only at hSw)
        go_simp <;> with_reducible rfl
      try simp only [Act.put, List.getElem_toArray, List.getElem_cons_succ, List.getElem_cons_zero, List.setIfInBounds_toArray, List.set_cons_zero, List.set_cons_succ]
      refine wpAnyH_take (i := 7) (v := ?_) rfl (by kernel_rfl) (by kernel_rfl) (by kernel_rfl) (fun _ _ _ h => h) (Or.inl ⟨by rfl, ?_⟩) (by assumption) ?_
      rotate_left
      · intro w hSw
        (try dsimp only at hSw)
        go_simp <;> with_reducible rfl
      try simp only [Act.put, List.getElem_toArray, List.getElem_cons_succ, List.getElem_cons_zero, List.setIfInBounds_toArray, List.set_cons_zero, List.set_cons_succ]
      refine wpAnyH_take (i := 8) rfl (by kernel_rfl) (by kernel_rfl) (by kernel_rfl) (fun _ _ _ h => h) (Or.inr ⟨by rfl, rfl⟩) (by assumption) ?_
      try simp only [Act.put, List.getElem_toArray, List.getElem_cons_succ, List.getElem_cons_zero, List.setIfInBounds_toArray, List.set_cons_zero, List.set_cons_succ]
      refine wpAnyH_take (i := 9) rfl (by kernel_rfl) (by kernel_rfl) (by kernel_rfl) (fun _ _ _ h => h) (Or.inr ⟨by rfl, rfl⟩) (by assumption) ?_
      try simp only [Act.put, List.getElem_toArray, List.getElem_cons_succ, List.getElem_cons_zero, List.setIfInBounds_toArray, List.set_cons_zero, List.set_cons_succ]
      refine wpAnyH_take (i := 10) rfl (by kernel_rfl) (by kernel_rfl) (by kernel_rfl) (fun _ _ _ h => h) (Or.inr ⟨by rfl, rfl⟩) (by assumption) ?_
      try simp only [Act.put, List.getElem_toArray, List.getElem_cons_succ, List.getElem_cons_zero, List.setIfInBounds_toArray, List.set_cons_zero, List.set_cons_succ]
      refine wpAnyH_take (i := 11) rfl (by kernel_rfl) (by kernel_rfl) (by kernel_rfl) (fun _ _ _ h => h) (Or.inr ⟨by rfl, rfl⟩) (by assumption) ?_
      try simp only [Act.put, List.getElem_toArray, List.getElem_cons_succ, List.getElem_cons_zero, List.setIfInBounds_toArray, List.set_cons_zero, List.set_cons_succ]
      refine wpAnyH_take (i := 12) rfl (by kernel_rfl) (by kernel_rfl) (by kernel_rfl) (fun _ _ _ h => h) (Or.inr ⟨by rfl, rfl⟩) (by assumption) ?_
      try simp only [Act.put, List.getElem_toArray, List.getElem_cons_succ, List.getElem_cons_zero, List.setIfInBounds_toArray, List.set_cons_zero, List.set_cons_succ]
      refine wpAnyH_take (i := 13) rfl (by kernel_rfl) (by kernel_rfl) (by kernel_rfl) (fun _ _ _ h => h) (Or.inr ⟨by rfl, rfl⟩) (by assumption) ?_
      try simp only [Act.put, List.getElem_toArray, List.getElem_cons_succ, List.getElem_cons_zero, List.setIfInBounds_toArray, List.set_cons_zero, List.set_cons_succ]
      refine wpAnyH_take (i := 14) rfl (by kernel_rfl) (by kernel_rfl) (by kernel_rfl) (fun _ _ _ h => h) (Or.inr ⟨by rfl, rfl⟩) (by assumption) ?_
      try simp only [Act.put, List.getElem_toArray, List.getElem_cons_succ, List.getElem_cons_zero, List.setIfInBounds_toArray, List.set_cons_zero, List.set_cons_succ]
      refine wpAnyH_take (i := 15) rfl (by kernel_rfl) (by kernel_rfl) (by kernel_rfl) (fun _ _ _ h => h) (Or.inr ⟨by rfl, rfl⟩) (by assumption) ?_
      try simp only [Act.put, List.getElem_toArray, List.getElem_cons_succ, List.getElem_cons_zero, List.setIfInBounds_toArray, List.set_cons_zero, List.set_cons_succ]
      refine wpAnyH_take (i := 16) rfl (by kernel_rfl) (by kernel_rfl) (by kernel_rfl) (fun _ _ _ h => h) (Or.inr ⟨by rfl, rfl⟩) (by assumption) ?_
      try simp only [Act.put, List.getElem_toArray, List.getElem_cons_succ, List.getElem_cons_zero, List.setIfInBounds_toArray, List.set_cons_zero, List.set_cons_succ]
      refine wpAnyH_take (i := 17) rfl (by kernel_rfl) (by kernel_rfl) (by kernel_rfl) (fun _ _ _ h => h) (Or.inr ⟨by rfl, rfl⟩) (by assumption) ?_
      try simp only [Act.put, List.getElem_toArray, List.getElem_cons_succ, List.getElem_cons_zero, List.setIfInBounds_toArray, List.set_cons_zero, List.set_cons_succ]
      refine wpAnyH_take (i := 18) rfl (by kernel_rfl) (by kernel_rfl) (by kernel_rfl) (fun _ _ _ h => h) (Or.inr ⟨by rfl, rfl⟩) (by assumption) ?_
      try simp only [Act.put, List.getElem_toArray, List.getElem_cons_succ, List.getElem_cons_zero, List.setIfInBounds_toArray, List.set_cons_zero, List.set_cons_succ]
      refine wpAnyH_take (i := 19) rfl (by kernel_rfl) (by kernel_rfl) (by kernel_rfl) (fun _ _ _ h => h) (Or.inr ⟨by rfl, rfl⟩) (by assumption) ?_
      try simp only [Act.put, List.getElem_toArray, List.getElem_cons_succ, List.getElem_cons_zero, List.setIfInBounds_toArray, List.set_cons_zero, List.set_cons_succ]
      refine wpAnyH_take (i := 20) (v := ?_) rfl (by kernel_rfl) (by kernel_rfl) (by kernel_rfl) (fun _ _ _ h => h) (Or.inl ⟨by rfl, ?_⟩) (by assumption) ?_
      rotate_left
      · intro w hSw
        (try dsimp only at hSw)
        go_simp <;> with_reducible rfl
      try simp only [Act.put, List.getElem_toArray, List.getElem_cons_succ, List.getElem_cons_zero, List.setIfInBounds_toArray, List.set_cons_zero, List.set_cons_succ]
      refine wpAnyH_done (by kernel_rfl) ?_ _
      clear hHeld z2'
      obtain ⟨W3, hW3⟩ : ∃ W, W = wr.drew := ⟨_, rfl⟩
      rw [← hW3]
      have HBW2 : Hid (Below W0.heap.size W0 W3) := Lib.hid (by rw [hW3]; exact HBW1.out.drew)
      clear hW3
      have hrd : ∀ W, Below W0.heap.size W0 W → Reads W w.heap.size 4 A n xs := fun W hW => (HROW.out.reads (B := w.heap.size) (fun b hb => (HH.out.cont b hb).2.1)).below (HB2.out W hW)
      have hone := rowsF_one HROWS.out
      have HRD := Lib.hid hrd; have HONE := Lib.hid hone
      have HSH := Lib.hid (goodA_short hga)
      have hs9 : Below W3.heap.size W3 (W3.alloc (.cells #[] 42)) := (Below.refl _ _).alloc (Nat.le_refl _) _
      have HS9 := Lib.hid hs9
      have HO9 := Lib.hid (own_empty40 W3 42 4)
      have hw3 : w.heap.size ≤ W3.heap.size := (HB2.out W3 HBW2.out).size
      have HW3 := Lib.hid hw3
      clear hrd hone hs9 hw3
      go_upto_region 9 with fail
      have z2 := (HCE.out _ (HBW2.out.trans (HS9.out.mono HBW2.out.size))).2.2
      have hkc : (k : Int) ≤ (c : Int) := by omega
      go_upto_region 10 with (at_builtin; go_loud (refine wpList_append_any _ rfl _ _ 23 rfl W3.heap.size 42 i0 (.agg #[.string ⟨#[]⟩, .slice none 0 0, .slice none 0 0, .slice none 0 0]) 4 88 Tryz.underlying23 hi hz0 hz1 hz2 rfl (by decide) _ _ _ rfl HO9.out w.heap.size A k c (xs.take (k * 4)) rfl (reads_take (HRD.out _ (HBW2.out.trans (HS9.out.mono HBW2.out.size))) hk) (fun u hu => HONE.out u (List.mem_of_mem_take hu)) (by unfold maxLen; omega) (by omega) (by simp) ?_; intro v7 w7 ho7 hg7 hx7; rw [Nat.zero_add, List.nil_append] at ho7; have HO7 := Lib.hid ho7; have HB7 := Lib.hid ((HBW2.out.trans (HS9.out.mono HBW2.out.size)).grown hg7 (by have := HBW2.out.size; simp; omega) (fun q hq => by have h1 := (HO9.out.lt q hq).1; have h2 := HBW2.out.size; omega)); have HZ7 := Lib.hid (show W3.heap.size ≤ w7.heap.size by have := hg7.size; simp at this; omega); clear ho7 hg7 hx7))
      clear z2
      obtain ⟨k0, k1, k2, k3⟩ := HCS.out w7 HB7.out
      have hcp := rcopied_any (HXF.out w7 HB7.out) (fun b hb => Nat.lt_of_lt_of_le hb (HB2.out _ HB7.out).size) HSH.out
      dsimp only [aggM] at hcp
      go_wp2_with fail
      refine hcp.mono ?_
      rintro e w8 ⟨cs8, rfl, hx8, hb8⟩
      obtain ⟨Z1, z1, Z2, z2, Z3, z3, rfl⟩ := hx8.form
      dsimp only [aggM]
      have HO8 := Lib.hid (own_below HO7.out hb8)
      have HRN := Lib.hid (reads_newk w8 42 [.string x.head, .slice Z1 x.word.length z1, .slice Z2 x.texts.length z2, .slice Z3 x.see.length z3] 4 1 rfl)
      have HX8 := Lib.hid hx8; have HB8 := Lib.hid (HB7.out.trans (hb8.mono HB7.out.size)); have HZ8 := Lib.hid hb8.size
      clear hcp hx8 hb8 k0 k1 k2 k3
      obtain ⟨A7, c7, rfl, -, -⟩ := ownsRow_form HO7.out
      go_upto_region 11 with (at_builtin; go_loud (refine wpList_append_any _ rfl _ _ 23 rfl W3.heap.size 42 i0 (.agg #[.string ⟨#[]⟩, .slice none 0 0, .slice none 0 0, .slice none 0 0]) 4 88 Tryz.underlying23 hi hz0 hz1 hz2 rfl (by decide) _ _ _ rfl (HO8.out.alloc _) _ _ _ _ [.string x.head, .slice Z1 x.word.length z1, .slice Z2 x.texts.length z2, .slice Z3 x.see.length z3] rfl HRN.out (by intro u hu; simp only [List.mem_cons, List.not_mem_nil, or_false] at hu; rcases hu with rfl | rfl | rfl | rfl <;> rfl) (by unfold maxLen; omega) (by omega) (by have h1 := HZ7.out; have h2 := HZ8.out; simp; omega) ?_; intro v9 w9 ho9 hg9 hx9; have HB9 := Lib.hid ((HB8.out.alloc HB8.out.size (.cells #[.string x.head, .slice Z1 x.word.length z1, .slice Z2 x.texts.length z2, .slice Z3 x.see.length z3] 42)).grown hg9 (by have := HB8.out.size; simp; omega) (fun q hq => by have h1 := (HO8.out.lt q hq).1; have h2 := HBW2.out.size; omega)); have HG9 := Lib.hid hg9; have HOO := Lib.hid ho9; have HXB9 := Lib.hid hx9; have HZ9 := Lib.hid (show w8.heap.size ≤ w9.heap.size by have := hg9.size; simp at this; omega); clear ho9 hg9 hx9))
      obtain ⟨A9, c9, rfl, -, -⟩ := ownsRow_form HOO.out
      have zg2 := (HCE.out w9 HB9.out).2.2
      have hkc2 : (k : Int) ≤ (c : Int) := by omega
      have hgW : g < W0.heap.size := Nat.lt_of_lt_of_le HH.out.blk.lt HB0.out.size
      have HGW := Lib.hid hgW
      clear hgW
      go_wp2_with (at_builtin; go_loud (refine wpList_append_any _ rfl _ _ 23 rfl W3.heap.size 42 i0 (.agg #[.string ⟨#[]⟩, .slice none 0 0, .slice none 0 0, .slice none 0 0]) 4 88 Tryz.underlying23 hi hz0 hz1 hz2 rfl (by decide) _ _ _ rfl HOO.out w.heap.size _ (n - k) _ (xs.drop (k * 4)) rfl (reads_drop (HRD.out _ HB9.out) hk (fun h => by first | rfl | (exfalso; omega))) (fun u hu => HONE.out u (List.mem_of_mem_drop hu)) (by unfold maxLen; omega) (by omega) (by have h1 := HZ7.out; have h2 := HZ8.out; have h3 := HZ9.out; omega) ?_; intro v10 w10 ho10 hg10 hx10; obtain ⟨A10, c10, rfl, -, -⟩ := ownsRow_form ho10; have hbg := (HDD.out w9 HB9.out).blk.grown hg10 (fun e => by have h1 := (HOO.out.lt g e.symm).1; have h2 := HGW.out; have h3 := HBW2.out.size; omega); have yg := hbg.cell 2; have fg := hbg.frozen 2; simp only [List.getElem?_toArray, List.getElem?_cons_zero, List.getElem?_cons_succ] at yg; have HO10 := Lib.hid ho10; have HG10 := Lib.hid hg10; clear ho10 hg10 hx10 hbg))
      all_goals
        have hx9 : ArtF w9 (NewS w7 w8) x [.string x.head, .slice Z1 x.word.length z1, .slice Z2 x.texts.length z2, .slice Z3 x.see.length z3] := HX8.out.keep (fun _ h => h) (fun q hq => by
          have h1 := HG9.out.block q.block (by have := hq.2; simp; omega) (fun e => by have h2 := (HO7.out.lt q.block e.symm).2; have h3 := hq.1; omega)
          unfold World.cell?
          rw [h1, Below.heap_alloc _ _ _ hq.2])
        have hx10 : ArtF w10 (NewS w7 w8) x [.string x.head, .slice Z1 x.word.length z1, .slice Z2 x.texts.length z2, .slice Z3 x.see.length z3] := hx9.keep (fun _ h => h) (fun q hq => World.cell?_of_block (HG10.out.block q.block (by have h1 := hq.2; have h2 := HZ9.out; omega) (fun e => by
          rcases HXB9.out with e2 | e2
          · have h2 := (HO7.out.lt q.block (e.trans e2).symm).2; have h3 := hq.1; omega
          · have e3 := e.trans e2
            injection e3 with e3
            have h3 := hq.2
            simp at e3
            omega)))
        have hb10 : Below w.heap.size w w10 := (HB2.out w9 HB9.out).grown HG10.out (HB2.out w9 HB9.out).size (fun q hq => by have h1 := (HOO.out.lt q hq).1; have h2 := HW3.out; omega)
        have hfin := RDct.put_ HH.out HROWS.out hb10 HO10.out (by rw [insA_len, HN.out]; omega) HW3.out (hx10.keep (S' := NewS w w10) (fun b hb => ⟨Nat.le_trans (HB2.out w7 HB7.out).size hb.1, by have h1 := hb.2; have h2 := HZ9.out; have h3 := HG10.out.size; omega⟩) (fun _ _ => rfl)) HPL.out
        have HF := Lib.hid hfin
        clear hx9 hx10 hb10 hfin
        go_wp2
        go_ret
        show PutR w B a g gs S L x _ _
        rw [HP.out]
        exact ⟨rfl, fun h => absurd rfl h, fun _ => ⟨_, _, HF.out.1, fun b hb => hb.imp (fun h => h) (fun h => h.1), HF.out.2⟩⟩
end
end Go.Proofs.YtgkpoopiamicnaaGreatDoor
