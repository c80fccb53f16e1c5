/-
  layer 4: the reference's inventories: made, New, Belongs. Conditions: feature names that can be read; sounds of 32 bits.
-/
import Derived.Test.YtmepaeahchiglaaGreatDoorZabb
import Derived.Test.YtmepaeahchiglaaGreatDoorZaas
namespace Go.Proofs.YtmepaeahchiglaaGreatDoor
open Go.RowKit Go.Lib

/-- The reference's inventory in memory, in blocks of S. -/
def RInv (w : World) (S : Nat → Prop) (g : Nat) (fs : List ByteArray) (L : List Nam) : Prop := ∃ A1 c1 v,
  (Blk w g 255 #[.bool true, .slice A1 fs.length c1, v] ∧ S g) ∧
  (w.ownsRow 0 9 1 (.slice A1 fs.length c1) fs.length (fs.map Value.string) ∧ ∀ b, (Value.slice A1 fs.length c1).ownBlock = some b → S b) ∧
  (w.ownsRow 0 74 3 v L.length (L.flatMap namC) ∧ ∀ b, v.ownBlock = some b → S b) ∧ InvOk fs L
section
variable {w w' : World} {S T : Nat → Prop} {g : Nat} {fs : List ByteArray} {L : List Nam}
theorem RInv.ok (h : RInv w S g fs L) : InvOk fs L := by obtain ⟨_, _, _, _, _, _, h⟩ := h; exact h
theorem RInv.mono (h : RInv w S g fs L) (hs : ∀ b, S b → T b) : RInv w T g fs L := by
  obtain ⟨A1, c1, v, ⟨h1, h2⟩, ⟨h3, h4⟩, ⟨h5, h6⟩, h7⟩ := h
  exact ⟨A1, c1, v, ⟨h1, hs _ h2⟩, ⟨h3, fun b hb => hs _ (h4 b hb)⟩, ⟨h5, fun b hb => hs _ (h6 b hb)⟩, h7⟩
theorem RInv.chg (h : RInv w S g fs L) (hc : ChgS T w w') (ht : ∀ b, S b → ¬ T b) : RInv w' S g fs L := by
  obtain ⟨A1, c1, v, ⟨h1, h2⟩, ⟨h3, h4⟩, ⟨h5, h6⟩, h7⟩ := h
  exact ⟨A1, c1, v, ⟨h1.chgS hc (ht _ h2), h2⟩, ⟨own_chgS h3 hc (fun k hk => ht _ (h4 k hk)), h4⟩, ⟨own_chgS h5 hc (fun k hk => ht _ (h6 k hk)), h6⟩, h7⟩
theorem RInv.below (h : RInv w S g fs L) (hb : Below w.heap.size w w') : RInv w' S g fs L := h.chg (T := fun _ => False) (.of_below hb) (fun _ _ h => h)
theorem rmade_any (h : RInv w S g fs L) : Calls Tryz.prog 223 #[wptr g] w fun e w' => e = .returned (.bool true) ∧ w = w' := by
  obtain ⟨A1, c1, v, ⟨h1, -⟩, -⟩ := h
  have c0 := h1.cell 0
  simp only [List.getElem?_toArray, List.getElem?_cons_zero] at c0
  clear h1
  go_enter Tryz.func223, Tryz.ntmps223
  go_wp2
  go_ret
  exact ⟨rfl, rfl⟩
end
theorem okFeat_size {s : ByteArray} (h : okFeat s = true) : s.size ≤ 16 := by
  by_cases h0 : 0 < s.size
  · rw [okFeat_eq h0] at h
    simp only [Bool.and_eq_true, decide_eq_true_eq] at h
    exact h.1
  · omega
def RNewPost (w : World) (fs : List ByteArray) (e : Ending) (w' : World) : Prop :=
  Below w.heap.size w w' ∧ ((newE fs = 0 ∧ ∃ g, e = .returned (.tuple #[wptr g, .int .i64 0]) ∧ RInv w' (NewB4 w w') g fs []) ∨ (newE fs ≠ 0 ∧ e = .returned (.tuple #[.pointer none, .int .i64 (newE fs)])))
theorem rnew_no {w w' : World} {fs : List ByteArray} (x : Int) (hb : Below w.heap.size w w') (h : newE fs = x) (hx : x ≠ 0) : RNewPost w fs (.returned (.tuple #[.pointer none, .int .i64 x])) w' :=
  ⟨hb, .inr ⟨by rw [h]; exact hx, by rw [h]⟩⟩
set_option linter.unusedSimpArgs false in
set_option maxRecDepth 20000 in
set_option maxHeartbeats 2000000 in
theorem rnew_any (A : Option Addr) (n c B : Nat) (fs : List ByteArray) (w : World) (hr : ReadS w B A n fs) (hB : B ≤ w.heap.size) (hn : n ≤ c) (hs : ∀ s ∈ fs, s.size ≤ maxLen) :
    Calls Tryz.prog 193 #[.slice A n c] w (RNewPost w fs) := by
  obtain ⟨i2, hi2, hy0, hy1, hy2⟩ := info_parts (show (Tryz.prog.info? 9).map (fun i => (i.zero, i.size, i.bytes)) = some (some (.string ByteArray.empty), 1, 16) by kernel_rfl)
  have hfl := hr.len
  subst hfl
  have HR := Lib.hid hr; have HS := Lib.hid hs
  clear hr hs
  by_cases h24 : 24 < fs.length
  · have h24I : (24 : Int) < (fs.length : Int) := by omega
    have hE : newE fs = 12 := by unfold newE; rw [if_pos h24]
    have HE := Lib.hid hE
    clear h24 hE
    go_enter Tryz.func193, Tryz.ntmps193
    go_wp2
    go_ret2
    exact rnew_no 12 (Below.refl _ _) HE.out (by decide)
  · have h24I : ¬ (24 : Int) < (fs.length : Int) := by omega
    have hE0 : newE fs = if fs.all okFeat then (if (fs.map bs).Nodup then 0 else 6) else 15 := by unfold newE; rw [if_neg h24]
    have HE0 := Lib.hid hE0
    clear hE0
    go_enter Tryz.func193, Tryz.ntmps193
    go_wp2
    go_loopw [4] (fun i wr => ∃ k : Nat, k ≤ fs.length ∧ i = .int .i64 k ∧ (fs.take k).all okFeat = true ∧ w = wr) (fun i _ => fs.length - (RowKit.intOf i).toNat)
    case atStart => exact ⟨0, by omega, rfl, rfl, rfl⟩
    case round =>
      obtain ⟨k, hk, rfl, hall, rfl⟩ := hrel
      have HALL := Lib.hid hall
      clear hall
      by_cases hlt : k < fs.length
      · have hkI : (k : Int) < (fs.length : Int) := by omega
        have hk0 : (0 : Int) ≤ (k : Int) := by omega
        obtain ⟨ad, rfl, had, hcell⟩ := HR.out.at_ hlt
        have hc := isFeat_any fs[k] w (HS.out _ (List.getElem_mem hlt))
        have hnx : (fs.take (k + 1)).all okFeat = okFeat fs[k] := by rw [List.take_succ_eq_append_getElem hlt, List.all_append, HALL.out]; simp
        have hno := okFeat_take hlt
        generalize fs[k] = s at *
        cases hf : okFeat s with
        | true =>
          rw [hf] at hc hnx
          have HC := Lib.hid hc; have HNX := Lib.hid hnx
          clear hc hnx hno hf
          go_wp2_with fail
          refine HC.out.mono ?_
          rintro e w1 ⟨rfl, rfl⟩
          go_wp2
          go_roundw
          case rel => exact ⟨k + 1, by omega, by go_num, HNX.out, trivial⟩
          case measure => simp [RowKit.intOf]; omega
        | false =>
          rw [hf] at hc
          have hE : newE fs = 15 := by rw [HE0.out, hno hf]; rfl
          have HC := Lib.hid hc; have HE := Lib.hid hE
          clear hc hnx hno hf hE
          go_wp2_with fail
          refine HC.out.mono ?_
          rintro e w1 ⟨rfl, rfl⟩
          go_wp2
          go_ret2
          exact rnew_no 15 (Below.refl _ _) HE.out (by decide)
      · obtain rfl : k = fs.length := by omega
        have hall := HALL.out
        rw [List.take_length] at hall
        have HA := Lib.hid hall
        clear hall HALL hlt
        go_wp2
        go_loopw [5] (fun i wr => ∃ k : Nat, k ≤ fs.length ∧ i = .int .i64 k ∧ ((fs.take k).map bs).Nodup ∧ Below w.heap.size w wr) (fun i _ => fs.length - (RowKit.intOf i).toNat)
        case atStart => exact ⟨0, by omega, rfl, List.nodup_nil, Below.refl _ _⟩
        case round =>
          obtain ⟨k, hk, rfl, hnd, hb⟩ := hrel
          have HND := Lib.hid hnd; have HB := Lib.hid hb
          obtain ⟨W, rfl⟩ : ∃ W, W = wr := ⟨_, rfl⟩
          clear hnd hb
          by_cases hlt : k < fs.length
          · have hkI : (k : Int) < (fs.length : Int) := by omega
            have hk0 : (0 : Int) ≤ (k : Int) := by omega
            have hnt := nodup_take hlt HND.out
            have HNT := Lib.hid hnt
            clear hnt
            go_wp2
            go_loopw [6] (fun j wr => ∃ m : Nat, m ≤ k ∧ j = .int .i64 m ∧ ((fs.take m).any fun t => decide (bs t = bs fs[k])) = false ∧ Below w.heap.size w wr) (fun j _ => k - (RowKit.intOf j).toNat)
            case atStart => exact ⟨0, by omega, rfl, rfl, HB.out⟩
            case round =>
              obtain ⟨m, hm, rfl, hany, hb2⟩ := hrel
              have HAN := Lib.hid hany; have HB2 := Lib.hid hb2
              obtain ⟨W2, rfl⟩ : ∃ W, W = wr := ⟨_, rfl⟩
              clear hany hb2
              by_cases hmk : m < k
              · have hmI : (m : Int) < (k : Int) := by omega
                have hm0 : (0 : Int) ≤ (m : Int) := by omega
                have hmf : m < fs.length := by omega
                have hmI2 : (m : Int) < (fs.length : Int) := by omega
                obtain ⟨ad, rfl, had, hc1⟩ := ReadS.at_ (Reads.below HR.out (HB2.out.mono hB)) hlt
                obtain ⟨ad2, e2, -, hc2⟩ := ReadS.at_ (Reads.below HR.out (HB2.out.mono hB)) hmf
                obtain rfl := Option.some.inj e2
                have hbeq : (fs[k].toList == fs[m].toList) = decide (bs fs[m] = bs fs[k]) := by rw [beq_bs]; exact decide_eq_decide.2 ⟨fun h => h.symm, fun h => h.symm⟩
                have hnx : ((fs.take (m + 1)).any fun t => decide (bs t = bs fs[k])) = decide (bs fs[m] = bs fs[k]) := by rw [List.take_succ_eq_append_getElem hmf, List.any_append, HAN.out]; simp
                have hyes : bs fs[m] = bs fs[k] → ¬ (fs.map bs).Nodup := fun h hnd => by
                  have h1 := HNT.out.1 (((List.take_sublist (k + 1) _).map bs).nodup hnd)
                  rw [List.any_eq_false] at h1
                  exact h1 _ (List.mem_take_iff_getElem.2 ⟨m, by omega, rfl⟩) (decide_eq_true h)
                generalize fs[k] = s at *
                generalize fs[m] = s2 at *
                by_cases hsm : bs s2 = bs s
                · have hE : newE fs = 6 := by rw [HE0.out, if_pos HA.out, if_neg (hyes hsm)]
                  rw [decide_eq_true hsm] at hbeq
                  have HE := Lib.hid hE
                  clear hnx hyes hsm hE
                  go_wp2
                  go_region
                  go_wp2
                  go_ret2
                  exact rnew_no 6 HB2.out.drew HE.out (by decide)
                · rw [decide_eq_false hsm] at hbeq hnx
                  have HNX := Lib.hid hnx
                  clear hnx hyes hsm
                  go_wp2
                  go_region
                  go_wp2
                  go_roundw
                  case rel => exact ⟨m + 1, by omega, by go_num, HNX.out, HB2.out.drew⟩
                  case measure => simp [RowKit.intOf]; omega
              · obtain rfl : m = k := by omega
                have hnd := HNT.out.2 HAN.out
                have HND2 := Lib.hid hnd
                clear hnd HAN hmk
                go_wp2
                go_roundw
                case rel => exact ⟨m + 1, by omega, by go_num, HND2.out, HB2.out⟩
                case measure => simp [RowKit.intOf]; omega
          · obtain rfl : k = fs.length := by omega
            have hE : newE fs = 0 := by rw [HE0.out, if_pos HA.out, if_pos (by have := HND.out; rwa [List.take_length] at this)]
            have HE := Lib.hid hE
            have h24' : fs.length ≤ 24 := by omega
            have hsz := HB.out.size
            have hown := own_empty04 W 9 1
            have hr' := Reads.alloc (Reads.below HR.out (HB.out.mono hB)) (show B ≤ W.heap.size by omega) (.cells #[] 9)
            have HRD := Lib.hid hr'
            clear hE hlt hr'
            go_wp2_with (at_builtin; refine wpList_append_any _ rfl _ _ _ rfl W.heap.size 9 i2 (.string ByteArray.empty) 1 16 Tryz.underlying22 hi2 hy0 hy1 hy2 rfl (by decide) _ _ _ rfl hown B _ _ _ (fs.map Value.string) rfl HRD.out (strC_one fs) (by unfold maxLen; omega) (by omega) (by simp) ?_; intro v' w1 hown' hgrow hx; have hb1 : Below W.heap.size W w1 := ((Below.refl _ W).alloc (Nat.le_refl _) _).grown hgrow (by simp) (fun g hg => (hown.lt g hg).1); obtain ⟨A1, c1, rfl, -, -⟩ := ownsRow_form hown'; have HO := Lib.hid hown'; have HB1 := Lib.hid hb1; clear hgrow hx hown' hb1)
            go_ret2
            have hb1 := HB1.out
            have hown' := HO.out
            have hsz1 := hb1.size
            simp only [Nat.zero_add, List.nil_append] at hown' ⊢
            refine ⟨(HB.out.trans (hb1.mono (by omega))).trans ((Below.refl _ w1).alloc (by omega) _), .inl ⟨HE.out, _, rfl, A1, c1, .slice none 0 0, ⟨Blk.new _ _ _, ⟨by omega, by rw [World.size_alloc]; omega⟩⟩, ⟨own_mono (hown'.alloc _) (Nat.zero_le _), (fun b hb => by have := hown'.lt b hb; refine ⟨by omega, ?_⟩; rw [World.size_alloc]; omega)⟩, ⟨World.ownsRow_nil _ _ _ _, fun b hb => by cases hb⟩, ⟨h24', fun s hs => okFeat_size (List.all_eq_true.1 HA.out s hs), by simp, (fun x hx => by cases hx), List.nodup_nil⟩⟩⟩
end Go.Proofs.YtmepaeahchiglaaGreatDoor
namespace Go.Proofs.YtmepaeahchiglaaGreatDoor
open Go.RowKit Go.Lib

set_option maxRecDepth 20000 in
set_option maxHeartbeats 1000000 in
theorem feature_any (f : Nat) (w : World) (hf : f < 24) : Calls Tryz.prog 245 #[.int .i64 f] w fun e w' => e = .returned (.bool true) ∧ w = w' := by
  have h0 : (0 : Int) ≤ (f : Int) := by omega
  have h1 : (f : Int) < 24 := by omega
  clear hf
  go_enter Tryz.func245, Tryz.ntmps245
  go_wp2
  go_ret
  exact ⟨rfl, rfl⟩
/-- What a sound says of a feature. -/
def getF (s : Snd) (f : Nat) : Int := if s.1.testBit f then 1 else if s.2.testBit f then -1 else 0
set_option maxRecDepth 20000 in
set_option maxHeartbeats 1000000 in
theorem get_any (s : Snd) (f : Nat) (w : World) (hf : f < 24) (hs : ok32 s) (hv : validS s = true) : Calls Tryz.prog 239 #[sndV s, .int .i64 f] w fun e w' => e = .returned (.int .i64 (getF s f)) ∧ Below w.heap.size w w' := by
  have h0 : (0 : Int) ≤ (f : Int) := by omega
  have h1 : (f : Int) < 24 := by omega
  have ha := bit_int s.1 f hs.1
  have hb := bit_int s.2 f hs.2
  have hc1 := fun w => rvalid1_any s w hs
  rw [hv] at hc1
  have hc2 := fun w => feature_any f w hf
  have hg : getF s f = if s.1.testBit f then 1 else if s.2.testBit f then -1 else 0 := rfl
  have HC1 := Lib.hid hc1; have HC2 := Lib.hid hc2
  clear hc1 hc2 hf hs hv
  generalize getF s f = r at *
  obtain ⟨p, q⟩ := s
  go_enter Tryz.func239, Tryz.ntmps239
  cases hta : p.testBit f with
  | true =>
    rw [hta] at ha hg
    simp only [if_true] at ha hg
    subst hg
    clear hb hta
    go_wp2_with fail
    refine (HC1.out _).mono ?_
    rintro e w1 ⟨rfl, hb1⟩
    have c0 := (Blk.new w 55 #[.int .u32 p, .int .u32 q]).below hb1 (by simp)
    have k0 := c0.cell 0
    have k1 := c0.cell 1
    simp only [List.getElem?_toArray, List.getElem?_cons_zero, List.getElem?_cons_succ] at k0 k1
    have HB := Lib.hid (((Below.refl _ w).alloc (Nat.le_refl _) (.cells #[.int .u32 p, .int .u32 q] 55)).trans (hb1.mono (by simp)))
    clear hb1 c0
    go_wp2_with fail
    refine (HC2.out _).mono ?_
    rintro e w2 ⟨rfl, rfl⟩
    go_wp2
    go_ret
    exact ⟨rfl, HB.out⟩
  | false =>
    rw [hta] at ha hg
    simp only [Bool.false_eq_true, if_false] at ha hg
    clear hta
    cases htb : q.testBit f with
    | true =>
      rw [htb] at hb hg
      simp only [if_true] at hb hg
      subst hg
      clear htb
      go_wp2_with fail
      refine (HC1.out _).mono ?_
      rintro e w1 ⟨rfl, hb1⟩
      have c0 := (Blk.new w 55 #[.int .u32 p, .int .u32 q]).below hb1 (by simp)
      have k0 := c0.cell 0
      have k1 := c0.cell 1
      simp only [List.getElem?_toArray, List.getElem?_cons_zero, List.getElem?_cons_succ] at k0 k1
      have HB := Lib.hid (((Below.refl _ w).alloc (Nat.le_refl _) (.cells #[.int .u32 p, .int .u32 q] 55)).trans (hb1.mono (by simp)))
      clear hb1 c0
      go_wp2_with fail
      refine (HC2.out _).mono ?_
      rintro e w2 ⟨rfl, rfl⟩
      go_wp2
      go_ret
      exact ⟨rfl, HB.out⟩
    | false =>
      rw [htb] at hb hg
      simp only [Bool.false_eq_true, if_false] at hb hg
      subst hg
      clear htb
      go_wp2_with fail
      refine (HC1.out _).mono ?_
      rintro e w1 ⟨rfl, hb1⟩
      have c0 := (Blk.new w 55 #[.int .u32 p, .int .u32 q]).below hb1 (by simp)
      have k0 := c0.cell 0
      have k1 := c0.cell 1
      simp only [List.getElem?_toArray, List.getElem?_cons_zero, List.getElem?_cons_succ] at k0 k1
      have HB := Lib.hid (((Below.refl _ w).alloc (Nat.le_refl _) (.cells #[.int .u32 p, .int .u32 q] 55)).trans (hb1.mono (by simp)))
      clear hb1 c0
      go_wp2_with fail
      refine (HC2.out _).mono ?_
      rintro e w2 ⟨rfl, rfl⟩
      go_wp2
      go_ret
      exact ⟨rfl, HB.out⟩
theorem getF_zero {s : Snd} {f : Nat} : getF s f = 0 ↔ (s.1 ||| s.2).testBit f = false := by
  unfold getF
  rw [Nat.testBit_or]
  cases s.1.testBit f <;> cases s.2.testBit f <;> simp
theorem belongs_bits {n : Nat} {s : Snd} (hn : n ≤ 24) : belongs n s = true ↔ validS s = true ∧ ∀ f, n ≤ f → f < 24 → getF s f = 0 := by
  unfold belongs validS
  rw [decide_eq_true_iff, decide_eq_true_iff]
  constructor
  · rintro ⟨h1, h2⟩
    refine ⟨⟨h1, Nat.lt_of_lt_of_le h2 (Nat.pow_le_pow_right (by decide) hn : 2 ^ n ≤ 2 ^ 24)⟩, fun f hf _ => getF_zero.2 ?_⟩
    exact Nat.testBit_lt_two_pow (Nat.lt_of_lt_of_le h2 (Nat.pow_le_pow_right (by decide) hf))
  · rintro ⟨⟨h1, h2⟩, h3⟩
    refine ⟨h1, Nat.lt_pow_two_of_testBit _ fun f hf => ?_⟩
    rcases Nat.lt_or_ge f 24 with h | h
    · exact getF_zero.1 (h3 f hf h)
    · exact Nat.testBit_lt_two_pow (Nat.lt_of_lt_of_le h2 (Nat.pow_le_pow_right (by decide) h : 2 ^ 24 ≤ 2 ^ f))
set_option maxRecDepth 20000 in
set_option maxHeartbeats 1000000 in
theorem rbelongs_any {w : World} {S : Nat → Prop} {g : Nat} {fs : List ByteArray} {L : List Nam} (h : RInv w S g fs L) (s : Snd) (hs : ok32 s) :
    Calls Tryz.prog 225 #[wptr g, sndV s] w fun e w' => e = .returned (.bool (belongs fs.length s)) ∧ Below w.heap.size w w' := by
  have h24 := h.ok.f24
  obtain ⟨A1, c1, v, ⟨h1, -⟩, -⟩ := h
  have hbb := belongs_bits (s := s) h24
  have hlt := h1.lt
  generalize fs.length = n at *
  have h1' : ∀ w' : World, Below w.heap.size w w' → Blk w' g 255 #[.bool true, .slice A1 n c1, v] := fun _ hb => h1.below hb hlt
  have hc1 := fun w => rvalid1_any s w hs
  have hc2 := fun (f : Nat) (hf : f < 24) (hv : validS s = true) w => get_any s f w hf hs hv
  have HC1 := Lib.hid hc1; have HC2 := Lib.hid hc2
  generalize hr : belongs n s = r at *
  have HBB := Lib.hid hbb
  clear hbb hc1 hc2 hs h1
  go_enter Tryz.func225, Tryz.ntmps225
  cases hv : validS s with
  | false =>
    obtain rfl : r = false := by
      cases r with
      | false => rfl
      | true => have := (HBB.out.1 rfl).1; rw [hv] at this; cases this
    rw [hv] at HC1
    obtain ⟨p, q⟩ := s
    clear hv HC2 HBB hr h1'
    go_wp2_with fail
    refine (HC1.out _).mono ?_
    rintro e w1 ⟨rfl, hb1⟩
    have HB := Lib.hid (((Below.refl _ w).alloc (Nat.le_refl _) (.cells #[.int .u32 p, .int .u32 q] 55)).trans (hb1.mono (by simp)))
    clear hb1
    go_wp2
    go_ret
    exact ⟨rfl, HB.out⟩
  | true =>
    have HC2' := fun f hf => HC2.out f hf hv
    rw [hv] at HC1 HBB
    have HV := Lib.hid HC2'
    have HBC := Lib.hid h1'
    obtain ⟨p, q⟩ := s
    clear hv HC2 HC2' hr h1'
    go_wp2_with fail
    refine (HC1.out _).mono ?_
    rintro e w1 ⟨rfl, hb1⟩
    have hw1 : Below w.heap.size w w1 := ((Below.refl _ w).alloc (Nat.le_refl _) (.cells #[.int .u32 p, .int .u32 q] 55)).trans (hb1.mono (by simp))
    have c0 := (Blk.new w 55 #[.int .u32 p, .int .u32 q]).below hb1 (by simp)
    have d0 := (HBC.out _ hw1).cell 1
    simp only [List.getElem?_toArray, List.getElem?_cons_zero, List.getElem?_cons_succ] at d0
    have hsz1 := hw1.size
    have hsz2 := hb1.size
    rw [World.size_alloc] at hsz2
    have HB := Lib.hid hw1; have HC0 := Lib.hid c0
    clear hb1 c0 hw1
    go_wp2
    go_loopw [5] (fun i wr => ∃ k : Nat, n ≤ k ∧ k ≤ 24 ∧ i = .int .i64 k ∧ (∀ f, n ≤ f → f < k → getF (p, q) f = 0) ∧ Below w1.heap.size w1 wr) (fun i _ => 24 - (RowKit.intOf i).toNat)
    case atStart => exact ⟨n, Nat.le_refl _, h24, rfl, fun f h1 h2 => by omega, Below.refl _ _⟩
    case round =>
      obtain ⟨k, hnk, hk, rfl, hall, hb⟩ := hrel
      obtain ⟨W, rfl⟩ : ∃ W, W = wr := ⟨_, rfl⟩
      have HALL := Lib.hid hall; have HBW := Lib.hid hb
      have cc := HC0.out.below hb (by omega)
      have k0 := cc.cell 0
      have k1 := cc.cell 1
      simp only [List.getElem?_toArray, List.getElem?_cons_zero, List.getElem?_cons_succ] at k0 k1
      have hsz := hb.size
      clear hall hb cc
      by_cases hlt : k < 24
      · have hkI : (k : Int) < 24 := by omega
        go_wp2_with fail
        refine (HV.out k hlt _).mono ?_
        rintro e w2 ⟨rfl, hb2⟩
        have HB2 := Lib.hid (hb2.mono (show w1.heap.size ≤ W.heap.size from hsz))
        clear hb2
        by_cases h0 : getF (p, q) k = 0
        · rw [h0]
          go_wp2
          go_roundw
          case rel => exact ⟨k + 1, by omega, by omega, by go_num, fun f h1 h2 => by
            rcases Nat.lt_or_ge f k with h | h
            · exact HALL.out f h1 h
            · obtain rfl : f = k := by omega
              exact h0, HBW.out.trans HB2.out⟩
          case measure => simp [RowKit.intOf]; omega
        · have hr0 : r = false := by
            cases r with
            | false => rfl
            | true => exact absurd ((HBB.out.1 rfl).2 k hnk hlt) h0
          subst hr0
          have hI : (getF (p, q) k == (0 : Int)) = false := by rw [beq_eq_false_iff_ne]; exact h0
          generalize getF (p, q) k = z at *
          go_wp2
          go_ret
          exact ⟨rfl, HB.out.trans ((HBW.out.trans HB2.out).mono hsz1)⟩
      · obtain rfl : k = 24 := by omega
        have hr1 : r = true := HBB.out.2 ⟨trivial, HALL.out⟩
        subst hr1
        go_wp2
        go_ret
        exact ⟨rfl, HB.out.trans (HBW.out.mono hsz1)⟩
end Go.Proofs.YtmepaeahchiglaaGreatDoor
namespace Go.Proofs.YtmepaeahchiglaaGreatDoor
open Go.RowKit Go.Lib

theorem signC_nat (c : UInt8) : signC c = decide (c.toNat = 58 ∨ c.toNat = 39 ∨ c.toNat = 34 ∨ c.toNat = 126 ∨ c.toNat = 94 ∨ c.toNat = 95 ∨ c.toNat = 61 ∨ c.toNat = 96) := by
  rw [Bool.eq_iff_iff]
  simp [signC, ← UInt8.toNat_inj]
set_option linter.unusedSimpArgs false in
set_option maxRecDepth 20000 in
theorem sign_any (c : UInt8) (w : World) : Calls Tryz.prog 226 #[.int .u8 c.toNat] w fun e w' => e = .returned (.bool (signC c)) ∧ w = w' := by
  have hc := c.toNat_lt
  obtain ⟨r, hr⟩ : ∃ r, signC c = r := ⟨_, rfl⟩
  rw [hr]
  rw [signC_nat] at hr
  generalize c.toNat = n at *
  have HR := Lib.hid hr
  clear hr
  go_enter Tryz.func226, Tryz.ntmps226
  go_wp2
  all_goals
    go_ret
    refine ⟨?_, rfl⟩
    rw [← HR.out]
    simp
    try (first | omega | (rw [Bool.eq_iff_iff]; simp only [Bool.or_eq_true, Bool.and_eq_true, decide_eq_true_eq, beq_iff_eq]; omega))
set_option maxRecDepth 20000 in
set_option maxHeartbeats 2000000 in
theorem markText_any (s : ByteArray) (w : World) (hs : s.size ≤ maxLen) : Calls Tryz.prog 196 #[.string s] w fun e w' => e = .returned (.bool (okMark s)) ∧ w = w' := by
  unfold maxLen at hs
  have hl := size_bs s
  obtain ⟨r, hr⟩ : ∃ r, okMark s = r := ⟨_, rfl⟩
  rw [hr]
  unfold okMark consC at hr
  have HR := Lib.hid hr
  clear hr
  go_enter Tryz.func196, Tryz.ntmps196
  go_wp2
  go_loopw [3] (fun i wr => ∃ k : Nat, k ≤ s.size ∧ i = .int .i64 k ∧ ((bs s).take k).all signC = true ∧ w = wr) (fun i _ => s.size - (RowKit.intOf i).toNat)
  case atStart => exact ⟨0, by omega, rfl, rfl, rfl⟩
  case round =>
    obtain ⟨k, hk, rfl, hall, rfl⟩ := hrel
    have HALL := Lib.hid hall
    clear hall
    by_cases hlt : k < s.size
    · have hkI : (k : Int) < (s.size : Int) := by omega
      have hk0 : (0 : Int) ≤ (k : Int) := by omega
      have hkb : k < (bs s).length := by rw [hl]; exact hlt
      have hk256 : (s[k].toNat : Int) < 256 := by have := s[k].toNat_lt; omega
      have hnx := all_take_next signC (bs s) k hkb
      rw [HALL.out, Bool.true_and] at hnx
      have hc := sign_any s[k] w
      cases hcs : signC s[k] with
      | true =>
        rw [hcs] at hc
        have HC := Lib.hid hc
        have HNX := Lib.hid (hnx.trans hcs)
        clear hc hnx hcs
        go_wp2_with fail
        refine HC.out.mono ?_
        rintro e w1 ⟨rfl, rfl⟩
        go_wp2
        go_roundw
        case rel => exact ⟨k + 1, by omega, by go_num, HNX.out, trivial⟩
        case measure => simp [RowKit.intOf]; omega
      | false =>
        rw [hcs] at hc
        obtain rfl : r = false := by
          have h : (bs s).all signC = false := List.all_eq_false.2 ⟨s[k], List.getElem_mem hkb, by rw [hcs]; decide⟩
          rw [← HR.out, h, Bool.and_false]
        have HC := Lib.hid hc
        clear hc hnx hcs
        go_wp2_with fail
        refine HC.out.mono ?_
        rintro e w1 ⟨rfl, rfl⟩
        go_wp2
        go_ret
        exact ⟨rfl, rfl⟩
    · obtain rfl : k = s.size := by omega
      have hal : (bs s).all signC = true := by
        have := HALL.out
        rwa [List.take_of_length_le (by rw [hl]; exact Nat.le_refl _)] at this
      have hr := HR.out
      rw [hal, Bool.and_true] at hr
      by_cases h1 : 1 ≤ s.size
      · have h1I : (1 : Int) ≤ (s.size : Int) := by omega
        by_cases h3 : s.size ≤ 3
        · have h3I : (s.size : Int) ≤ 3 := by omega
          obtain rfl : r = true := by rw [← hr, decide_eq_true h1, decide_eq_true h3]; rfl
          clear hr h1 h3
          go_wp2
          go_ret
          exact ⟨rfl, rfl⟩
        · have h3I : ¬ (s.size : Int) ≤ 3 := by omega
          obtain rfl : r = false := by rw [← hr, decide_eq_true h1, decide_eq_false h3]; rfl
          clear hr h1 h3
          go_wp2
          go_ret
          exact ⟨rfl, rfl⟩
      · have h1I : ¬ (1 : Int) ≤ (s.size : Int) := by omega
        obtain rfl : r = false := by rw [← hr, decide_eq_false h1]; rfl
        clear hr h1
        go_wp2
        go_ret
        exact ⟨rfl, rfl⟩
section
variable {w : World} {S : Nat → Prop} {g : Nat} {fs : List ByteArray} {L : List Nam}
set_option maxRecDepth 20000 in
set_option maxHeartbeats 1000000 in
theorem rfeats_any (h : RInv w S g fs L) : Calls Tryz.prog 195 #[wptr g] w fun e w' => ∃ v, e = .returned v ∧ w'.ownsRow w.heap.size 9 1 v fs.length (fs.map Value.string) ∧ Below w.heap.size w w' := by
  obtain ⟨i2, hi2, hy0, hy1, hy2⟩ := info_parts (show (Tryz.prog.info? 9).map (fun i => (i.zero, i.size, i.bytes)) = some (some (.string ByteArray.empty), 1, 16) by kernel_rfl)
  have hmd := rmade_any h
  have h24 := h.ok.f24
  obtain ⟨A1, c1, v, ⟨h1, -⟩, ⟨h3, -⟩, -⟩ := h
  have hg1 := (h1.alloc (.cells #[] 9)).cell 1
  simp only [List.getElem?_toArray, List.getElem?_cons_zero, List.getElem?_cons_succ] at hg1
  have hown := own_empty04 w 9 1
  have hr := (Reads.of_own h3).alloc (Nat.le_refl _) (.cells #[] 9)
  have HMD := Lib.hid hmd; have HR := Lib.hid hr; have HOWN := Lib.hid hown
  clear hmd h1 h3 hr hown
  go_enter Tryz.func195, Tryz.ntmps195
  go_wp2_with fail
  refine HMD.out.mono ?_
  rintro e w1 ⟨rfl, rfl⟩
  go_wp2_with (at_builtin; refine wpList_append_any _ rfl _ _ _ rfl w.heap.size 9 i2 (.string ByteArray.empty) 1 16 Tryz.underlying22 hi2 hy0 hy1 hy2 rfl (by decide) _ _ _ rfl HOWN.out w.heap.size _ _ _ (fs.map Value.string) rfl HR.out (strC_one fs) (by unfold maxLen; omega) (by omega) (by simp) ?_; intro v' w1 hown' hgrow hx; have HB1 := Lib.hid (((Below.refl _ w).alloc (Nat.le_refl _) (.cells #[] 9)).grown hgrow (by simp) (fun g hg => (HOWN.out.lt g hg).1)); have HO := Lib.hid hown'; clear hgrow hx hown')
  go_ret
  exact ⟨_, rfl, by simpa using HO.out, HB1.out⟩
set_option maxRecDepth 20000 in
set_option maxHeartbeats 1000000 in
theorem rsounds_any (h : RInv w S g fs L) : Calls Tryz.prog 227 #[wptr g] w fun e w' => ∃ v, e = .returned v ∧ w'.ownsRow w.heap.size 74 3 v L.length (L.flatMap namC) ∧ Below w.heap.size w w' := by
  obtain ⟨i0, hi, hz0, hz1, hz2⟩ := info_parts (show (Tryz.prog.info? 74).map (fun i => (i.zero, i.size, i.bytes)) = some (some (.agg #[.string ByteArray.empty, .int .u32 0, .int .u32 0]), 3, 24) by kernel_rfl)
  have hmd := rmade_any h
  have h256 := h.ok.l256
  obtain ⟨A1, c1, v, ⟨h1, -⟩, -, ⟨h3, -⟩, -⟩ := h
  obtain ⟨A2, c2, rfl, -, -⟩ := ownsRow_form h3
  have hg1 := (h1.alloc (.cells #[] 74)).cell 2
  simp only [List.getElem?_toArray, List.getElem?_cons_zero, List.getElem?_cons_succ] at hg1
  have hown := own_empty04 w 74 3
  have hr := (Reads.of_own h3).alloc (Nat.le_refl _) (.cells #[] 74)
  have HMD := Lib.hid hmd; have HR := Lib.hid hr; have HOWN := Lib.hid hown
  clear hmd h1 h3 hr hown
  go_enter Tryz.func227, Tryz.ntmps227
  go_wp2_with fail
  refine HMD.out.mono ?_
  rintro e w1 ⟨rfl, rfl⟩
  go_wp2_with (at_builtin; refine wpList_append_any _ rfl _ _ _ rfl w.heap.size 74 i0 (.agg #[.string ByteArray.empty, .int .u32 0, .int .u32 0]) 3 24 Tryz.underlying23 hi hz0 hz1 hz2 rfl (by decide) _ _ _ rfl HOWN.out w.heap.size _ _ _ (L.flatMap namC) rfl HR.out (namC_one L) (by unfold maxLen; omega) (by omega) (by simp) ?_; intro v' w1 hown' hgrow hx; have HB1 := Lib.hid (((Below.refl _ w).alloc (Nat.le_refl _) (.cells #[] 74)).grown hgrow (by simp) (fun g hg => (HOWN.out.lt g hg).1)); have HO := Lib.hid hown'; clear hgrow hx hown')
  go_ret
  exact ⟨_, rfl, by simpa using HO.out, HB1.out⟩
set_option maxRecDepth 20000 in
set_option maxHeartbeats 1000000 in
theorem rcopy_any (h : RInv w S g fs L) : Calls Tryz.prog 198 #[wptr g] w fun e w' => ∃ g', e = .returned (wptr g') ∧ RInv w' (NewB4 w w') g' fs L ∧ Below w.heap.size w w' := by
  have hmd := rmade_any h
  have hf := rfeats_any h
  have hs := fun (w' : World) (hb : Below w.heap.size w w') => rsounds_any (h.below hb)
  have hok := h.ok
  have HMD := Lib.hid hmd; have HF := Lib.hid hf; have HS := Lib.hid hs; have HOK := Lib.hid hok
  clear hmd hf hs hok h
  go_enter Tryz.func198, Tryz.ntmps198
  go_wp2_with fail
  refine HMD.out.mono ?_
  rintro e w1 ⟨rfl, rfl⟩
  go_wp2_with fail
  refine HF.out.mono ?_
  rintro e w1 ⟨v1, rfl, ho1, hb1⟩
  obtain ⟨A1, c1, rfl, -, -⟩ := ownsRow_form ho1
  have hS := HS.out w1 hb1
  have HSS := Lib.hid hS; have HO1 := Lib.hid ho1; have HB1 := Lib.hid hb1
  clear hS ho1 hb1
  go_wp2_with fail
  refine HSS.out.mono ?_
  rintro e w2 ⟨v2, rfl, ho2, hb2⟩
  obtain ⟨A2, c2, rfl, -, -⟩ := ownsRow_form ho2
  have HO2 := Lib.hid ho2; have HB2 := Lib.hid hb2
  have hs1 := HB1.out.size
  have hs2 := hb2.size
  clear ho2 hb2
  go_wp2
  go_ret
  have ho1' := own_below HO1.out HB2.out
  refine ⟨_, rfl, ⟨A1, c1, .slice A2 L.length c2, ⟨Blk.new _ _ _, ⟨by omega, by rw [World.size_alloc]; omega⟩⟩, ⟨own_mono (ho1'.alloc _) (Nat.zero_le _), (fun b hb => by have := ho1'.lt b hb; refine ⟨by omega, ?_⟩; rw [World.size_alloc]; omega)⟩, ⟨own_mono (HO2.out.alloc _) (Nat.zero_le _), (fun b hb => by have := HO2.out.lt b hb; refine ⟨by omega, ?_⟩; rw [World.size_alloc]; omega)⟩, HOK.out⟩, (HB1.out.trans (HB2.out.mono hs1)).trans ((Below.refl _ w2).alloc (by omega) _)⟩
end
end Go.Proofs.YtmepaeahchiglaaGreatDoor
namespace Go.Proofs.YtmepaeahchiglaaGreatDoor
open Go.RowKit Go.Lib

end Go.Proofs.YtmepaeahchiglaaGreatDoor
