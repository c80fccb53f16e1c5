/-
  layer 4: the reference's inventories: made, New, Belongs. Conditions: feature names that can be read; sounds of 32 bits.
-/
import Derived.Test.YtohggdfplmlinaaDoorNtD1
import Derived.Test.YtohggdfplmlinaaDoorNtN1
namespace Go.Proofs.YtohggdfplmlinaaDoor
open Go.RowKit Go.Lib

/-- The reference's inventory in memory, in blocks of S. -/
def RInv (w : World) (S : Nat → Prop) (g : Nat) (fs : List ByteArray) (L : List Nam) : Prop := ∃ A1 c1 v,
  (Blk w g 125 #[.bool true, .slice A1 fs.length c1, v] ∧ S g) ∧
  (w.ownsRow 0 9 1 (.slice A1 fs.length c1) fs.length (fs.map Value.string) ∧ ∀ b, (Value.slice A1 fs.length c1).ownBlock = some b → S b) ∧
  (w.ownsRow 0 41 3 v L.length (L.flatMap namC) ∧ ∀ b, v.ownBlock = some b → S b) ∧ InvOk fs L
section
variable {w w' : World} {S T : Nat → Prop} {g : Nat} {fs : List ByteArray} {L : List Nam}
theorem RInv.ok (h : RInv w S g fs L) : InvOk fs L := by obtain ⟨_, _, _, _, _, _, h⟩ := h; exact h
theorem RInv.mono (h : RInv w S g fs L) (hs : ∀ b, S b → T b) : RInv w T g fs L := by
  obtain ⟨A1, c1, v, ⟨h1, h2⟩, ⟨h3, h4⟩, ⟨h5, h6⟩, h7⟩ := h
  exact ⟨A1, c1, v, ⟨h1, hs _ h2⟩, ⟨h3, fun b hb => hs _ (h4 b hb)⟩, ⟨h5, fun b hb => hs _ (h6 b hb)⟩, h7⟩
theorem RInv.chg (h : RInv w S g fs L) (hc : ChgS T w w') (ht : ∀ b, S b → ¬ T b) : RInv w' S g fs L := by
  obtain ⟨A1, c1, v, ⟨h1, h2⟩, ⟨h3, h4⟩, ⟨h5, h6⟩, h7⟩ := h
  exact ⟨A1, c1, v, ⟨h1.chgS hc (ht _ h2), h2⟩, ⟨own_chgS h3 hc (fun k hk => ht _ (h4 k hk)), h4⟩, ⟨own_chgS h5 hc (fun k hk => ht _ (h6 k hk)), h6⟩, h7⟩
theorem RInv.below (h : RInv w S g fs L) (hb : Below w.heap.size w w') : RInv w' S g fs L := h.chg (T := fun _ => False) (.of_below hb) (fun _ _ h => h)
theorem rmade_any (h : RInv w S g fs L) : Calls Tryd.prog 68 #[wptr g] w fun e w' => e = .returned (.bool true) ∧ w = w' := by
  obtain ⟨A1, c1, v, ⟨h1, -⟩, -⟩ := h
  have c0 := h1.cell 0
  simp only [List.getElem?_toArray, List.getElem?_cons_zero] at c0
  clear h1
  go_enter Tryd.func68, Tryd.ntmps68
  go_wp2
  go_ret
  exact ⟨rfl, rfl⟩
end
theorem okFeat_size {s : ByteArray} (h : okFeat s = true) : s.size ≤ 16 := by
  by_cases h0 : 0 < s.size
  · rw [okFeat_eq h0] at h
    simp only [Bool.and_eq_true, decide_eq_true_eq] at h
    exact h.1
  · omega
def RNewPost (w : World) (fs : List ByteArray) (e : Ending) (w' : World) : Prop :=
  Below w.heap.size w w' ∧ ((newE fs = 0 ∧ ∃ g, e = .returned (.tuple #[wptr g, .int .i64 0]) ∧ RInv w' (NewB w w') g fs []) ∨ (newE fs ≠ 0 ∧ e = .returned (.tuple #[.pointer none, .int .i64 (newE fs)])))
theorem rnew_no {w w' : World} {fs : List ByteArray} (x : Int) (hb : Below w.heap.size w w') (h : newE fs = x) (hx : x ≠ 0) : RNewPost w fs (.returned (.tuple #[.pointer none, .int .i64 x])) w' :=
  ⟨hb, .inr ⟨by rw [h]; exact hx, by rw [h]⟩⟩
set_option linter.unusedSimpArgs false in
set_option maxRecDepth 20000 in
set_option maxHeartbeats 2000000 in
theorem rnew_any (A : Option Addr) (n c B : Nat) (fs : List ByteArray) (w : World) (hr : ReadS w B A n fs) (hB : B ≤ w.heap.size) (hn : n ≤ c) (hs : ∀ s ∈ fs, s.size ≤ maxLen) :
    Calls Tryd.prog 47 #[.slice A n c] w (RNewPost w fs) := by
  obtain ⟨i2, hi2, hy0, hy1, hy2⟩ := info_parts (show (Tryd.prog.info? 9).map (fun i => (i.zero, i.size, i.bytes)) = some (some (.string ByteArray.empty), 1, 16) by kernel_rfl)
  have hfl := hr.len
  subst hfl
  have HR := Lib.hid hr; have HS := Lib.hid hs
  clear hr hs
  by_cases h24 : 24 < fs.length
  · have h24I : (24 : Int) < (fs.length : Int) := by omega
    have hE : newE fs = 12 := by unfold newE; rw [if_pos h24]
    have HE := Lib.hid hE
    clear h24 hE
    go_enter Tryd.func47, Tryd.ntmps47
    go_wp2
    go_ret2
    exact rnew_no 12 (Below.refl _ _) HE.out (by decide)
  · have h24I : ¬ (24 : Int) < (fs.length : Int) := by omega
    have hE0 : newE fs = if fs.all okFeat then (if (fs.map bs).Nodup then 0 else 6) else 15 := by unfold newE; rw [if_neg h24]
    have HE0 := Lib.hid hE0
    clear hE0
    go_enter Tryd.func47, Tryd.ntmps47
    go_wp2
    go_loopw [4] (fun i wr => ∃ k : Nat, k ≤ fs.length ∧ i = .int .i64 k ∧ (fs.take k).all okFeat = true ∧ w = wr) (fun i _ => fs.length - (RowKit.intOf i).toNat)
    case atStart => exact ⟨0, by omega, rfl, rfl, rfl⟩
    case round =>
      obtain ⟨k, hk, rfl, hall, rfl⟩ := hrel
      have HALL := Lib.hid hall
      clear hall
      by_cases hlt : k < fs.length
      · have hkI : (k : Int) < (fs.length : Int) := by omega
        have hk0 : (0 : Int) ≤ (k : Int) := by omega
        obtain ⟨ad, rfl, had, hcell⟩ := HR.out.at_ hlt
        have hc := isFeat_any fs[k] w (HS.out _ (List.getElem_mem hlt))
        have hnx : (fs.take (k + 1)).all okFeat = okFeat fs[k] := by rw [List.take_succ_eq_append_getElem hlt, List.all_append, HALL.out]; simp
        have hno := okFeat_take hlt
        generalize fs[k] = s at *
        cases hf : okFeat s with
        | true =>
          rw [hf] at hc hnx
          have HC := Lib.hid hc; have HNX := Lib.hid hnx
          clear hc hnx hno hf
          go_wp2_with fail
          refine HC.out.mono ?_
          rintro e w1 ⟨rfl, rfl⟩
          go_wp2
          go_roundw
          case rel => exact ⟨k + 1, by omega, by go_num, HNX.out, trivial⟩
          case measure => simp [RowKit.intOf]; omega
        | false =>
          rw [hf] at hc
          have hE : newE fs = 15 := by rw [HE0.out, hno hf]; rfl
          have HC := Lib.hid hc; have HE := Lib.hid hE
          clear hc hnx hno hf hE
          go_wp2_with fail
          refine HC.out.mono ?_
          rintro e w1 ⟨rfl, rfl⟩
          go_wp2
          go_ret2
          exact rnew_no 15 (Below.refl _ _) HE.out (by decide)
      · obtain rfl : k = fs.length := by omega
        have hall := HALL.out
        rw [List.take_length] at hall
        have HA := Lib.hid hall
        clear hall HALL hlt
        go_wp2
        go_loopw [5] (fun i wr => ∃ k : Nat, k ≤ fs.length ∧ i = .int .i64 k ∧ ((fs.take k).map bs).Nodup ∧ Below w.heap.size w wr) (fun i _ => fs.length - (RowKit.intOf i).toNat)
        case atStart => exact ⟨0, by omega, rfl, List.nodup_nil, Below.refl _ _⟩
        case round =>
          obtain ⟨k, hk, rfl, hnd, hb⟩ := hrel
          have HND := Lib.hid hnd; have HB := Lib.hid hb
          obtain ⟨W, rfl⟩ : ∃ W, W = wr := ⟨_, rfl⟩
          clear hnd hb
          by_cases hlt : k < fs.length
          · have hkI : (k : Int) < (fs.length : Int) := by omega
            have hk0 : (0 : Int) ≤ (k : Int) := by omega
            have hnt := nodup_take hlt HND.out
            have HNT := Lib.hid hnt
            clear hnt
            go_wp2
            go_loopw [6] (fun j wr => ∃ m : Nat, m ≤ k ∧ j = .int .i64 m ∧ ((fs.take m).any fun t => decide (bs t = bs fs[k])) = false ∧ Below w.heap.size w wr) (fun j _ => k - (RowKit.intOf j).toNat)
            case atStart => exact ⟨0, by omega, rfl, rfl, HB.out⟩
            case round =>
              obtain ⟨m, hm, rfl, hany, hb2⟩ := hrel
              have HAN := Lib.hid hany; have HB2 := Lib.hid hb2
              obtain ⟨W2, rfl⟩ : ∃ W, W = wr := ⟨_, rfl⟩
              clear hany hb2
              by_cases hmk : m < k
              · have hmI : (m : Int) < (k : Int) := by omega
                have hm0 : (0 : Int) ≤ (m : Int) := by omega
                have hmf : m < fs.length := by omega
                have hmI2 : (m : Int) < (fs.length : Int) := by omega
                obtain ⟨ad, rfl, had, hc1⟩ := ReadS.at_ (Reads.below HR.out (HB2.out.mono hB)) hlt
                obtain ⟨ad2, e2, -, hc2⟩ := ReadS.at_ (Reads.below HR.out (HB2.out.mono hB)) hmf
                obtain rfl := Option.some.inj e2
                have hbeq : (fs[k].toList == fs[m].toList) = decide (bs fs[m] = bs fs[k]) := by rw [beq_bs]; exact decide_eq_decide.2 ⟨fun h => h.symm, fun h => h.symm⟩
                have hnx : ((fs.take (m + 1)).any fun t => decide (bs t = bs fs[k])) = decide (bs fs[m] = bs fs[k]) := by rw [List.take_succ_eq_append_getElem hmf, List.any_append, HAN.out]; simp
                have hyes : bs fs[m] = bs fs[k] → ¬ (fs.map bs).Nodup := fun h hnd => by
                  have h1 := HNT.out.1 (((List.take_sublist (k + 1) _).map bs).nodup hnd)
                  rw [List.any_eq_false] at h1
                  exact h1 _ (List.mem_take_iff_getElem.2 ⟨m, by omega, rfl⟩) (decide_eq_true h)
                generalize fs[k] = s at *
                generalize fs[m] = s2 at *
                by_cases hsm : bs s2 = bs s
                · have hE : newE fs = 6 := by rw [HE0.out, if_pos HA.out, if_neg (hyes hsm)]
                  rw [decide_eq_true hsm] at hbeq
                  have HE := Lib.hid hE
                  clear hnx hyes hsm hE
                  go_wp2
                  go_region
                  go_wp2
                  go_ret2
                  exact rnew_no 6 HB2.out.drew HE.out (by decide)
                · rw [decide_eq_false hsm] at hbeq hnx
                  have HNX := Lib.hid hnx
                  clear hnx hyes hsm
                  go_wp2
                  go_region
                  go_wp2
                  go_roundw
                  case rel => exact ⟨m + 1, by omega, by go_num, HNX.out, HB2.out.drew⟩
                  case measure => simp [RowKit.intOf]; omega
              · obtain rfl : m = k := by omega
                have hnd := HNT.out.2 HAN.out
                have HND2 := Lib.hid hnd
                clear hnd HAN hmk
                go_wp2
                go_roundw
                case rel => exact ⟨m + 1, by omega, by go_num, HND2.out, HB2.out⟩
                case measure => simp [RowKit.intOf]; omega
          · obtain rfl : k = fs.length := by omega
            have hE : newE fs = 0 := by rw [HE0.out, if_pos HA.out, if_pos (by have := HND.out; rwa [List.take_length] at this)]
            have HE := Lib.hid hE
            have h24' : fs.length ≤ 24 := by omega
            have hsz := HB.out.size
            have hown := own_empty0 W 9 1
            have hr' := Reads.alloc (Reads.below HR.out (HB.out.mono hB)) (show B ≤ W.heap.size by omega) (.cells #[] 9)
            have HRD := Lib.hid hr'
            clear hE hlt hr'
            go_wp2_with (at_builtin; refine wpList_append_any _ rfl _ _ _ rfl W.heap.size 9 i2 (.string ByteArray.empty) 1 16 Tryd.underlying22 hi2 hy0 hy1 hy2 rfl (by decide) _ _ _ rfl hown B _ _ _ (fs.map Value.string) rfl HRD.out (strC_one fs) (by unfold maxLen; omega) (by omega) (by simp) ?_; intro v' w1 hown' hgrow hx; have hb1 : Below W.heap.size W w1 := ((Below.refl _ W).alloc (Nat.le_refl _) _).grown hgrow (by simp) (fun g hg => (hown.lt g hg).1); obtain ⟨A1, c1, rfl, -, -⟩ := ownsRow_form hown'; have HO := Lib.hid hown'; have HB1 := Lib.hid hb1; clear hgrow hx hown' hb1)
            go_ret2
            have hb1 := HB1.out
            have hown' := HO.out
            have hsz1 := hb1.size
            simp only [Nat.zero_add, List.nil_append] at hown' ⊢
            refine ⟨(HB.out.trans (hb1.mono (by omega))).trans ((Below.refl _ w1).alloc (by omega) _), .inl ⟨HE.out, _, rfl, A1, c1, .slice none 0 0, ⟨Blk.new _ _ _, ⟨by omega, by rw [World.size_alloc]; omega⟩⟩, ⟨own_mono (hown'.alloc _) (Nat.zero_le _), (fun b hb => by have := hown'.lt b hb; refine ⟨by omega, ?_⟩; rw [World.size_alloc]; omega)⟩, ⟨World.ownsRow_nil _ _ _ _, fun b hb => by cases hb⟩, ⟨h24', fun s hs => okFeat_size (List.all_eq_true.1 HA.out s hs), by simp, (fun x hx => by cases hx), List.nodup_nil⟩⟩⟩
end Go.Proofs.YtohggdfplmlinaaDoor
