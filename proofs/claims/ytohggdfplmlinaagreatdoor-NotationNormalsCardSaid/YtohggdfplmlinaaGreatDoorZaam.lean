/-
  layer 4: the reference's inventories: letters, feature names, symbols. Conditions: texts of at most maxLen bytes.
-/
import Derived.Test.YtohggdfplmlinaaGreatDoorZaae
import Derived.Test.YtohggdfplmlinaaGreatDoorZaaf
namespace Go.Proofs.YtohggdfplmlinaaGreatDoor
open Go.RowKit Go.Lib

def bigC (c : UInt8) : Bool := (decide (65 ≤ c.toNat) && decide (c.toNat ≤ 90)) || otherC c
theorem symC_two (c : UInt8) : symC c = (smallC c || bigC c) := by unfold symC bigC; rw [Bool.or_assoc]
theorem otherC_nat (c : UInt8) : otherC c = decide (c.toNat = 64 ∨ c.toNat = 63 ∨ c.toNat = 33 ∨ c.toNat = 38 ∨ c.toNat = 42 ∨ c.toNat = 36 ∨ c.toNat = 37) := by
  rw [Bool.eq_iff_iff]
  simp [otherC, ← UInt8.toNat_inj]
set_option linter.unusedSimpArgs false in
set_option maxRecDepth 20000 in
theorem letter_any (c : UInt8) (w : World) : Calls Tryz.prog 86 #[.int .u8 c.toNat] w fun e w' => e = .returned (.bool (smallC c)) ∧ w = w' := by
  have hc := c.toNat_lt
  obtain ⟨r, hr⟩ : ∃ r, smallC c = r := ⟨_, rfl⟩
  rw [hr]
  unfold smallC at hr
  generalize c.toNat = n at *
  have HR := Lib.hid hr
  clear hr
  go_enter Tryz.func86, Tryz.ntmps86
  go_wp2
  all_goals
    go_ret
    refine ⟨?_, rfl⟩
    rw [← HR.out]
    simp
    try (first | omega | (rw [Bool.eq_iff_iff]; simp only [Bool.or_eq_true, Bool.and_eq_true, decide_eq_true_eq, beq_iff_eq]; omega))
set_option maxRecDepth 20000 in
theorem big_any (c : UInt8) (w : World) : Calls Tryz.prog 87 #[.int .u8 c.toNat] w fun e w' => e = .returned (.bool (bigC c)) ∧ w = w' := by
  have hc := c.toNat_lt
  obtain ⟨r, hr⟩ : ∃ r, bigC c = r := ⟨_, rfl⟩
  rw [hr]
  unfold bigC at hr
  rw [otherC_nat] at hr
  generalize c.toNat = n at *
  have HR := Lib.hid hr
  clear hr
  go_enter Tryz.func87, Tryz.ntmps87
  go_wp2
  all_goals
    go_ret
    refine ⟨?_, rfl⟩
    rw [← HR.out]
    simp
    try (first | omega | (rw [Bool.eq_iff_iff]; simp only [Bool.or_eq_true, Bool.and_eq_true, decide_eq_true_eq, beq_iff_eq]; omega))
theorem okFeat_eq {s : ByteArray} (h : 0 < s.size) : okFeat s = (decide (s.size ≤ 16) && (decide (97 ≤ s[0].toNat) && (decide (s[0].toNat ≤ 122) && (bs s).all smallC))) := by
  have hb : 0 < (bs s).length := by rw [size_bs]; exact h
  have hh : (bs s).headD 0 = s[0] := by
    have h0 : ∀ (l : List UInt8) (h : 0 < l.length), l.headD 0 = l[0] := fun l h => by
      cases l with
      | nil => cases h
      | cons a l => rfl
    exact h0 _ hb
  unfold okFeat consC
  rw [hh, decide_eq_true (show 1 ≤ s.size from h), Bool.true_and, Bool.eq_iff_iff]
  simp only [Bool.and_eq_true, decide_eq_true_eq]
  constructor
  · rintro ⟨⟨h1, h2⟩, h3⟩
    have := List.all_eq_true.1 h2 s[0] (show (bs s)[0] ∈ bs s from List.getElem_mem hb)
    unfold smallC at this
    simp only [Bool.or_eq_true, Bool.and_eq_true, decide_eq_true_eq] at this
    exact ⟨h1, by omega, by omega, h2⟩
  · rintro ⟨h1, h2, h3, h4⟩
    exact ⟨⟨h1, h4⟩, by omega⟩
theorem okFeat_nil {s : ByteArray} (h : ¬ 0 < s.size) : okFeat s = false := by
  unfold okFeat consC
  rw [decide_eq_false (show ¬ 1 ≤ s.size from h)]; rfl
set_option maxRecDepth 20000 in
set_option maxHeartbeats 1000000 in
theorem isFeat_any (s : ByteArray) (w : World) (hs : s.size ≤ maxLen) : Calls Tryz.prog 59 #[.string s] w fun e w' => e = .returned (.bool (okFeat s)) ∧ w = w' := by
  unfold maxLen at hs
  have hl := size_bs s
  by_cases h0 : 0 < s.size
  · rw [okFeat_eq h0]
    obtain ⟨r, hr⟩ : ∃ r, (decide (s.size ≤ 16) && (decide (97 ≤ s[0].toNat) && (decide (s[0].toNat ≤ 122) && (bs s).all smallC))) = r := ⟨_, rfl⟩
    rw [hr]
    have HR := Lib.hid hr
    have h1 : ¬ (s.size : Int) < 1 := by omega
    have hx256 : (s[0].toNat : Int) < 256 := by have := s[0].toNat_lt; omega
    clear hr
    by_cases h16 : s.size ≤ 16
    · have h16I : ¬ (16 : Int) < (s.size : Int) := by omega
      by_cases h97 : 97 ≤ s[0].toNat
      · have h97I : ¬ (s[0].toNat : Int) < 97 := by omega
        by_cases h122 : s[0].toNat ≤ 122
        · have h122I : ¬ (122 : Int) < (s[0].toNat : Int) := by omega
          have hr2 : (bs s).all smallC = r := by rw [← HR.out, decide_eq_true h16, decide_eq_true h97, decide_eq_true h122]; rfl
          have HR2 := Lib.hid hr2
          clear hr2 HR h97 h122 h16
          go_enter Tryz.func59, Tryz.ntmps59
          go_wp2
          go_loopw [3] (fun i wr => ∃ k : Nat, k ≤ s.size ∧ i = .int .i64 k ∧ ((bs s).take k).all smallC = true ∧ w = wr) (fun i _ => s.size - (RowKit.intOf i).toNat)
          case atStart => exact ⟨0, by omega, rfl, rfl, rfl⟩
          case round =>
            obtain ⟨k, hk, rfl, hall, rfl⟩ := hrel
            have HALL := Lib.hid hall
            clear hall
            by_cases hlt : k < s.size
            · have hkI : (k : Int) < (s.size : Int) := by omega
              have hk0 : (0 : Int) ≤ (k : Int) := by omega
              have hkb : k < (bs s).length := by rw [hl]; exact hlt
              have hk256 : (s[k].toNat : Int) < 256 := by have := s[k].toNat_lt; omega
              have hnx := all_take_next smallC (bs s) k hkb
              rw [HALL.out, Bool.true_and] at hnx
              have hc := letter_any s[k] w
              cases hcs : smallC s[k] with
              | true =>
                rw [hcs] at hc
                have HC := Lib.hid hc
                have HNX := Lib.hid (hnx.trans hcs)
                clear hc hnx hcs
                go_wp2_with fail
                refine HC.out.mono ?_
                rintro e w1 ⟨rfl, rfl⟩
                go_wp2
                go_roundw
                case rel => exact ⟨k + 1, by omega, by go_num, HNX.out, trivial⟩
                case measure => simp [RowKit.intOf]; omega
              | false =>
                rw [hcs] at hc
                obtain rfl : r = false := by
                  rw [← HR2.out, List.all_eq_false]
                  exact ⟨s[k], List.getElem_mem hkb, by rw [hcs]; decide⟩
                have HC := Lib.hid hc
                clear hc hnx hcs
                go_wp2_with fail
                refine HC.out.mono ?_
                rintro e w1 ⟨rfl, rfl⟩
                go_wp2
                go_ret
                exact ⟨rfl, rfl⟩
            · obtain rfl : k = s.size := by omega
              obtain rfl : r = true := by
                rw [← HR2.out]
                have := HALL.out
                rwa [List.take_of_length_le (by rw [hl]; exact Nat.le_refl _)] at this
              go_wp2
              go_ret
              exact ⟨rfl, rfl⟩
        · have h122I : (122 : Int) < (s[0].toNat : Int) := by omega
          obtain rfl : r = false := by rw [← HR.out, decide_eq_true h16, decide_eq_true h97, decide_eq_false h122]; rfl
          clear HR h97 h122 h16
          go_enter Tryz.func59, Tryz.ntmps59
          go_wp2
          go_ret
          exact ⟨rfl, rfl⟩
      · have h97I : (s[0].toNat : Int) < 97 := by omega
        obtain rfl : r = false := by rw [← HR.out, decide_eq_true h16, decide_eq_false h97]; rfl
        clear HR h97 h16
        go_enter Tryz.func59, Tryz.ntmps59
        go_wp2
        go_ret
        exact ⟨rfl, rfl⟩
    · have h16I : (16 : Int) < (s.size : Int) := by omega
      obtain rfl : r = false := by rw [← HR.out, decide_eq_false h16]; rfl
      clear HR h16
      go_enter Tryz.func59, Tryz.ntmps59
      go_wp2
      go_ret
      exact ⟨rfl, rfl⟩
  · rw [okFeat_nil h0]
    have h1 : (s.size : Int) < 1 := by omega
    clear h0
    go_enter Tryz.func59, Tryz.ntmps59
    go_wp2
    go_ret
    exact ⟨rfl, rfl⟩
set_option maxRecDepth 20000 in
set_option maxHeartbeats 1000000 in
theorem isSymbol_any (s : ByteArray) (w : World) (hs : s.size ≤ maxLen) : Calls Tryz.prog 61 #[.string s] w fun e w' => e = .returned (.bool (okSym s)) ∧ w = w' := by
  unfold maxLen at hs
  have hl := size_bs s
  obtain ⟨r, hr⟩ : ∃ r, okSym s = r := ⟨_, rfl⟩
  rw [hr]
  unfold okSym consC at hr
  have HR := Lib.hid hr
  clear hr
  by_cases h0 : 1 ≤ s.size
  · have h1 : ¬ (s.size : Int) < 1 := by omega
    by_cases h4 : s.size ≤ 4
    · have h4I : ¬ (4 : Int) < (s.size : Int) := by omega
      have hr2 : (bs s).all symC = r := by rw [← HR.out, decide_eq_true h0, decide_eq_true h4]; rfl
      have HR2 := Lib.hid hr2
      clear hr2 HR h0 h4
      go_enter Tryz.func61, Tryz.ntmps61
      go_wp2
      go_loopw [3] (fun i wr => ∃ k : Nat, k ≤ s.size ∧ i = .int .i64 k ∧ ((bs s).take k).all symC = true ∧ w = wr) (fun i _ => s.size - (RowKit.intOf i).toNat)
      case atStart => exact ⟨0, by omega, rfl, rfl, rfl⟩
      case round =>
        obtain ⟨k, hk, rfl, hall, rfl⟩ := hrel
        have HALL := Lib.hid hall
        clear hall
        by_cases hlt : k < s.size
        · have hkI : (k : Int) < (s.size : Int) := by omega
          have hk0 : (0 : Int) ≤ (k : Int) := by omega
          have hkb : k < (bs s).length := by rw [hl]; exact hlt
          have hk256 : (s[k].toNat : Int) < 256 := by have := s[k].toNat_lt; omega
          have hnx := all_take_next symC (bs s) k hkb
          rw [HALL.out, Bool.true_and] at hnx
          have hc := letter_any s[k] w
          have hc2 := big_any s[k] w
          have hsy := symC_two s[k]
          cases hcs : smallC s[k] with
          | true =>
            rw [hcs] at hc hsy
            have HC := Lib.hid hc
            have HNX := Lib.hid (hnx.trans (hsy.trans (Bool.true_or _)))
            clear hc hc2 hnx hcs hsy
            go_wp2_with fail
            refine HC.out.mono ?_
            rintro e w1 ⟨rfl, rfl⟩
            go_wp2
            go_roundw
            case rel => exact ⟨k + 1, by omega, by go_num, HNX.out, trivial⟩
            case measure => simp [RowKit.intOf]; omega
          | false =>
            rw [hcs] at hc hsy
            cases hbs : bigC s[k] with
            | true =>
              rw [hbs] at hc2 hsy
              have HC := Lib.hid hc; have HC2 := Lib.hid hc2
              have HNX := Lib.hid (hnx.trans hsy)
              clear hc hc2 hnx hcs hsy hbs
              go_wp2_with fail
              refine HC.out.mono ?_
              rintro e w1 ⟨rfl, rfl⟩
              go_wp2_with fail
              refine HC2.out.mono ?_
              rintro e w1 ⟨rfl, rfl⟩
              go_wp2
              go_roundw
              case rel => exact ⟨k + 1, by omega, by go_num, HNX.out, trivial⟩
              case measure => simp [RowKit.intOf]; omega
            | false =>
              rw [hbs] at hc2 hsy
              obtain rfl : r = false := by
                rw [← HR2.out, List.all_eq_false]
                exact ⟨s[k], List.getElem_mem hkb, by rw [hsy]; decide⟩
              have HC := Lib.hid hc; have HC2 := Lib.hid hc2
              clear hc hc2 hnx hcs hsy hbs
              go_wp2_with fail
              refine HC.out.mono ?_
              rintro e w1 ⟨rfl, rfl⟩
              go_wp2_with fail
              refine HC2.out.mono ?_
              rintro e w1 ⟨rfl, rfl⟩
              go_wp2
              go_ret
              exact ⟨rfl, rfl⟩
        · obtain rfl : k = s.size := by omega
          obtain rfl : r = true := by
            rw [← HR2.out]
            have := HALL.out
            rwa [List.take_of_length_le (by rw [hl]; exact Nat.le_refl _)] at this
          go_wp2
          go_ret
          exact ⟨rfl, rfl⟩
    · have h4I : (4 : Int) < (s.size : Int) := by omega
      obtain rfl : r = false := by rw [← HR.out, decide_eq_true h0, decide_eq_false h4]; rfl
      clear HR h4 h0
      go_enter Tryz.func61, Tryz.ntmps61
      go_wp2
      go_ret
      exact ⟨rfl, rfl⟩
  · have h1 : (s.size : Int) < 1 := by omega
    obtain rfl : r = false := by rw [← HR.out, decide_eq_false h0]; rfl
    clear HR h0
    go_enter Tryz.func61, Tryz.ntmps61
    go_wp2
    go_ret
    exact ⟨rfl, rfl⟩
end Go.Proofs.YtohggdfplmlinaaGreatDoor
namespace Go.Proofs.YtohggdfplmlinaaGreatDoor
open Go.RowKit Go.Lib

/-- The reference's inventory in memory, in blocks of S. -/
def RInv (w : World) (S : Nat → Prop) (g : Nat) (fs : List ByteArray) (L : List Nam) : Prop := ∃ A1 c1 v,
  (Blk w g 107 #[.bool true, .slice A1 fs.length c1, v] ∧ S g) ∧
  (w.ownsRow 0 9 1 (.slice A1 fs.length c1) fs.length (fs.map Value.string) ∧ ∀ b, (Value.slice A1 fs.length c1).ownBlock = some b → S b) ∧
  (w.ownsRow 0 60 3 v L.length (L.flatMap namC) ∧ ∀ b, v.ownBlock = some b → S b) ∧ InvOk fs L
section
variable {w w' : World} {S T : Nat → Prop} {g : Nat} {fs : List ByteArray} {L : List Nam}
theorem RInv.ok (h : RInv w S g fs L) : InvOk fs L := by obtain ⟨_, _, _, _, _, _, h⟩ := h; exact h
theorem RInv.mono (h : RInv w S g fs L) (hs : ∀ b, S b → T b) : RInv w T g fs L := by
  obtain ⟨A1, c1, v, ⟨h1, h2⟩, ⟨h3, h4⟩, ⟨h5, h6⟩, h7⟩ := h
  exact ⟨A1, c1, v, ⟨h1, hs _ h2⟩, ⟨h3, fun b hb => hs _ (h4 b hb)⟩, ⟨h5, fun b hb => hs _ (h6 b hb)⟩, h7⟩
theorem RInv.chg (h : RInv w S g fs L) (hc : ChgS T w w') (ht : ∀ b, S b → ¬ T b) : RInv w' S g fs L := by
  obtain ⟨A1, c1, v, ⟨h1, h2⟩, ⟨h3, h4⟩, ⟨h5, h6⟩, h7⟩ := h
  exact ⟨A1, c1, v, ⟨h1.chgS hc (ht _ h2), h2⟩, ⟨own_chgS h3 hc (fun k hk => ht _ (h4 k hk)), h4⟩, ⟨own_chgS h5 hc (fun k hk => ht _ (h6 k hk)), h6⟩, h7⟩
theorem RInv.below (h : RInv w S g fs L) (hb : Below w.heap.size w w') : RInv w' S g fs L := h.chg (T := fun _ => False) (.of_below hb) (fun _ _ h => h)
theorem rmade_any (h : RInv w S g fs L) : Calls Tryz.prog 60 #[wptr g] w fun e w' => e = .returned (.bool true) ∧ w = w' := by
  obtain ⟨A1, c1, v, ⟨h1, -⟩, -⟩ := h
  have c0 := h1.cell 0
  simp only [List.getElem?_toArray, List.getElem?_cons_zero] at c0
  clear h1
  go_enter Tryz.func60, Tryz.ntmps60
  go_wp2
  go_ret
  exact ⟨rfl, rfl⟩
end
theorem okFeat_size {s : ByteArray} (h : okFeat s = true) : s.size ≤ 16 := by
  by_cases h0 : 0 < s.size
  · rw [okFeat_eq h0] at h
    simp only [Bool.and_eq_true, decide_eq_true_eq] at h
    exact h.1
  · omega
def RNewPost (w : World) (fs : List ByteArray) (e : Ending) (w' : World) : Prop :=
  Below w.heap.size w w' ∧ ((newE fs = 0 ∧ ∃ g, e = .returned (.tuple #[wptr g, .int .i64 0]) ∧ RInv w' (NewB w w') g fs []) ∨ (newE fs ≠ 0 ∧ e = .returned (.tuple #[.pointer none, .int .i64 (newE fs)])))
theorem rnew_no {w w' : World} {fs : List ByteArray} (x : Int) (hb : Below w.heap.size w w') (h : newE fs = x) (hx : x ≠ 0) : RNewPost w fs (.returned (.tuple #[.pointer none, .int .i64 x])) w' :=
  ⟨hb, .inr ⟨by rw [h]; exact hx, by rw [h]⟩⟩
set_option linter.unusedSimpArgs false in
set_option maxRecDepth 20000 in
set_option maxHeartbeats 2000000 in
theorem rnew_any (A : Option Addr) (n c B : Nat) (fs : List ByteArray) (w : World) (hr : ReadS w B A n fs) (hB : B ≤ w.heap.size) (hn : n ≤ c) (hs : ∀ s ∈ fs, s.size ≤ maxLen) :
    Calls Tryz.prog 28 #[.slice A n c] w (RNewPost w fs) := by
  obtain ⟨i2, hi2, hy0, hy1, hy2⟩ := info_parts (show (Tryz.prog.info? 9).map (fun i => (i.zero, i.size, i.bytes)) = some (some (.string ByteArray.empty), 1, 16) by kernel_rfl)
  have hfl := hr.len
  subst hfl
  have HR := Lib.hid hr; have HS := Lib.hid hs
  clear hr hs
  by_cases h24 : 24 < fs.length
  · have h24I : (24 : Int) < (fs.length : Int) := by omega
    have hE : newE fs = 12 := by unfold newE; rw [if_pos h24]
    have HE := Lib.hid hE
    clear h24 hE
    go_enter Tryz.func28, Tryz.ntmps28
    go_wp2
    go_ret2
    exact rnew_no 12 (Below.refl _ _) HE.out (by decide)
  · have h24I : ¬ (24 : Int) < (fs.length : Int) := by omega
    have hE0 : newE fs = if fs.all okFeat then (if (fs.map bs).Nodup then 0 else 6) else 15 := by unfold newE; rw [if_neg h24]
    have HE0 := Lib.hid hE0
    clear hE0
    go_enter Tryz.func28, Tryz.ntmps28
    go_wp2
    go_loopw [4] (fun i wr => ∃ k : Nat, k ≤ fs.length ∧ i = .int .i64 k ∧ (fs.take k).all okFeat = true ∧ w = wr) (fun i _ => fs.length - (RowKit.intOf i).toNat)
    case atStart => exact ⟨0, by omega, rfl, rfl, rfl⟩
    case round =>
      obtain ⟨k, hk, rfl, hall, rfl⟩ := hrel
      have HALL := Lib.hid hall
      clear hall
      by_cases hlt : k < fs.length
      · have hkI : (k : Int) < (fs.length : Int) := by omega
        have hk0 : (0 : Int) ≤ (k : Int) := by omega
        obtain ⟨ad, rfl, had, hcell⟩ := HR.out.at_ hlt
        have hc := isFeat_any fs[k] w (HS.out _ (List.getElem_mem hlt))
        have hnx : (fs.take (k + 1)).all okFeat = okFeat fs[k] := by rw [List.take_succ_eq_append_getElem hlt, List.all_append, HALL.out]; simp
        have hno := okFeat_take hlt
        generalize fs[k] = s at *
        cases hf : okFeat s with
        | true =>
          rw [hf] at hc hnx
          have HC := Lib.hid hc; have HNX := Lib.hid hnx
          clear hc hnx hno hf
          go_wp2_with fail
          refine HC.out.mono ?_
          rintro e w1 ⟨rfl, rfl⟩
          go_wp2
          go_roundw
          case rel => exact ⟨k + 1, by omega, by go_num, HNX.out, trivial⟩
          case measure => simp [RowKit.intOf]; omega
        | false =>
          rw [hf] at hc
          have hE : newE fs = 15 := by rw [HE0.out, hno hf]; rfl
          have HC := Lib.hid hc; have HE := Lib.hid hE
          clear hc hnx hno hf hE
          go_wp2_with fail
          refine HC.out.mono ?_
          rintro e w1 ⟨rfl, rfl⟩
          go_wp2
          go_ret2
          exact rnew_no 15 (Below.refl _ _) HE.out (by decide)
      · obtain rfl : k = fs.length := by omega
        have hall := HALL.out
        rw [List.take_length] at hall
        have HA := Lib.hid hall
        clear hall HALL hlt
        go_wp2
        go_loopw [5] (fun i wr => ∃ k : Nat, k ≤ fs.length ∧ i = .int .i64 k ∧ ((fs.take k).map bs).Nodup ∧ Below w.heap.size w wr) (fun i _ => fs.length - (RowKit.intOf i).toNat)
        case atStart => exact ⟨0, by omega, rfl, List.nodup_nil, Below.refl _ _⟩
        case round =>
          obtain ⟨k, hk, rfl, hnd, hb⟩ := hrel
          have HND := Lib.hid hnd; have HB := Lib.hid hb
          obtain ⟨W, rfl⟩ : ∃ W, W = wr := ⟨_, rfl⟩
          clear hnd hb
          by_cases hlt : k < fs.length
          · have hkI : (k : Int) < (fs.length : Int) := by omega
            have hk0 : (0 : Int) ≤ (k : Int) := by omega
            have hnt := nodup_take hlt HND.out
            have HNT := Lib.hid hnt
            clear hnt
            go_wp2
            go_loopw [6] (fun j wr => ∃ m : Nat, m ≤ k ∧ j = .int .i64 m ∧ ((fs.take m).any fun t => decide (bs t = bs fs[k])) = false ∧ Below w.heap.size w wr) (fun j _ => k - (RowKit.intOf j).toNat)
            case atStart => exact ⟨0, by omega, rfl, rfl, HB.out⟩
            case round =>
              obtain ⟨m, hm, rfl, hany, hb2⟩ := hrel
              have HAN := Lib.hid hany; have HB2 := Lib.hid hb2
              obtain ⟨W2, rfl⟩ : ∃ W, W = wr := ⟨_, rfl⟩
              clear hany hb2
              by_cases hmk : m < k
              · have hmI : (m : Int) < (k : Int) := by omega
                have hm0 : (0 : Int) ≤ (m : Int) := by omega
                have hmf : m < fs.length := by omega
                have hmI2 : (m : Int) < (fs.length : Int) := by omega
                obtain ⟨ad, rfl, had, hc1⟩ := ReadS.at_ (Reads.below HR.out (HB2.out.mono hB)) hlt
                obtain ⟨ad2, e2, -, hc2⟩ := ReadS.at_ (Reads.below HR.out (HB2.out.mono hB)) hmf
                obtain rfl := Option.some.inj e2
                have hbeq : (fs[k].toList == fs[m].toList) = decide (bs fs[m] = bs fs[k]) := by rw [beq_bs]; exact decide_eq_decide.2 ⟨fun h => h.symm, fun h => h.symm⟩
                have hnx : ((fs.take (m + 1)).any fun t => decide (bs t = bs fs[k])) = decide (bs fs[m] = bs fs[k]) := by rw [List.take_succ_eq_append_getElem hmf, List.any_append, HAN.out]; simp
                have hyes : bs fs[m] = bs fs[k] → ¬ (fs.map bs).Nodup := fun h hnd => by
                  have h1 := HNT.out.1 (((List.take_sublist (k + 1) _).map bs).nodup hnd)
                  rw [List.any_eq_false] at h1
                  exact h1 _ (List.mem_take_iff_getElem.2 ⟨m, by omega, rfl⟩) (decide_eq_true h)
                generalize fs[k] = s at *
                generalize fs[m] = s2 at *
                by_cases hsm : bs s2 = bs s
                · have hE : newE fs = 6 := by rw [HE0.out, if_pos HA.out, if_neg (hyes hsm)]
                  rw [decide_eq_true hsm] at hbeq
                  have HE := Lib.hid hE
                  clear hnx hyes hsm hE
                  go_wp2
                  go_region
                  go_wp2
                  go_ret2
                  exact rnew_no 6 HB2.out.drew HE.out (by decide)
                · rw [decide_eq_false hsm] at hbeq hnx
                  have HNX := Lib.hid hnx
                  clear hnx hyes hsm
                  go_wp2
                  go_region
                  go_wp2
                  go_roundw
                  case rel => exact ⟨m + 1, by omega, by go_num, HNX.out, HB2.out.drew⟩
                  case measure => simp [RowKit.intOf]; omega
              · obtain rfl : m = k := by omega
                have hnd := HNT.out.2 HAN.out
                have HND2 := Lib.hid hnd
                clear hnd HAN hmk
                go_wp2
                go_roundw
                case rel => exact ⟨m + 1, by omega, by go_num, HND2.out, HB2.out⟩
                case measure => simp [RowKit.intOf]; omega
          · obtain rfl : k = fs.length := by omega
            have hE : newE fs = 0 := by rw [HE0.out, if_pos HA.out, if_pos (by have := HND.out; rwa [List.take_length] at this)]
            have HE := Lib.hid hE
            have h24' : fs.length ≤ 24 := by omega
            have hsz := HB.out.size
            have hown := own_empty0 W 9 1
            have hr' := Reads.alloc (Reads.below HR.out (HB.out.mono hB)) (show B ≤ W.heap.size by omega) (.cells #[] 9)
            have HRD := Lib.hid hr'
            clear hE hlt hr'
            go_wp2_with (at_builtin; refine wpList_append_any _ rfl _ _ _ rfl W.heap.size 9 i2 (.string ByteArray.empty) 1 16 Tryz.underlying22 hi2 hy0 hy1 hy2 rfl (by decide) _ _ _ rfl hown B _ _ _ (fs.map Value.string) rfl HRD.out (strC_one fs) (by unfold maxLen; omega) (by omega) (by simp) ?_; intro v' w1 hown' hgrow hx; have hb1 : Below W.heap.size W w1 := ((Below.refl _ W).alloc (Nat.le_refl _) _).grown hgrow (by simp) (fun g hg => (hown.lt g hg).1); obtain ⟨A1, c1, rfl, -, -⟩ := ownsRow_form hown'; have HO := Lib.hid hown'; have HB1 := Lib.hid hb1; clear hgrow hx hown' hb1)
            go_ret2
            have hb1 := HB1.out
            have hown' := HO.out
            have hsz1 := hb1.size
            simp only [Nat.zero_add, List.nil_append] at hown' ⊢
            refine ⟨(HB.out.trans (hb1.mono (by omega))).trans ((Below.refl _ w1).alloc (by omega) _), .inl ⟨HE.out, _, rfl, A1, c1, .slice none 0 0, ⟨Blk.new _ _ _, ⟨by omega, by rw [World.size_alloc]; omega⟩⟩, ⟨own_mono (hown'.alloc _) (Nat.zero_le _), (fun b hb => by have := hown'.lt b hb; refine ⟨by omega, ?_⟩; rw [World.size_alloc]; omega)⟩, ⟨World.ownsRow_nil _ _ _ _, fun b hb => by cases hb⟩, ⟨h24', fun s hs => okFeat_size (List.all_eq_true.1 HA.out s hs), by simp, (fun x hx => by cases hx), List.nodup_nil⟩⟩⟩
end Go.Proofs.YtohggdfplmlinaaGreatDoor
