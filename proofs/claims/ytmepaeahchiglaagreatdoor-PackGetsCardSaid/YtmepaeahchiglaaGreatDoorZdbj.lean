/-
 layer 4: the reference's inventories: letters, feature names, symbols. Conditions: texts of at most maxLen bytes.
-/
import Derived.Test.YtmepaeahchiglaaGreatDoorZdbc
set_option maxRecDepth 20000
set_option maxHeartbeats 2000000
set_option linter.unusedSimpArgs false
namespace Go.Proofs.YtmepaeahchiglaaGreatDoor
open Go.RowKit Go.Lib
def Ha (c : UInt8) : Bool := (decide (65 ≤ c.toNat) && decide (c.toNat ≤ 90)) || qW c
theorem IJ (c : UInt8) : tY c = (dG c || Ha c) := by unfold tY Ha; rw [Bool.or_assoc]
theorem Du (c : UInt8) : qW c = decide (c.toNat = 64 ∨ c.toNat = 63 ∨ c.toNat = 33 ∨ c.toNat = 38 ∨ c.toNat = 42 ∨ c.toNat = 36 ∨ c.toNat = 37) := by
 rw [Bool.eq_iff_iff]
 simp [qW, ← UInt8.toNat_inj]
theorem vw (c : UInt8) (w : World) : Calls Tryz.prog 237 #[.int .u8 c.toNat] w fun e w' => e = .returned (.bool (dG c)) ∧ w = w' := by
 have hc := c.toNat_lt
 obtain ⟨r, hr⟩ : ∃ r, dG c = r := ⟨_, rfl⟩
 rw [hr]
 unfold dG at hr
 generalize c.toNat = n at *
 have HR := qh hr
 clear hr
 go_enter Tryz.func237, Tryz.ntmps237
 go_wp2
 all_goals
  go_ret
  refine ⟨?_, rfl⟩
  rw [← HR.out]
  simp
  try (first | omega | (rw [Bool.eq_iff_iff]; simp only [Bool.or_eq_true, Bool.and_eq_true, decide_eq_true_eq, beq_iff_eq]; omega))
theorem MO (c : UInt8) (w : World) : Calls Tryz.prog 238 #[.int .u8 c.toNat] w fun e w' => e = .returned (.bool (Ha c)) ∧ w = w' := by
 have hc := c.toNat_lt
 obtain ⟨r, hr⟩ : ∃ r, Ha c = r := ⟨_, rfl⟩
 rw [hr]
 unfold Ha at hr
 rw [Du] at hr
 generalize c.toNat = n at *
 have HR := qh hr
 clear hr
 go_enter Tryz.func238, Tryz.ntmps238
 go_wp2
 all_goals
  go_ret
  refine ⟨?_, rfl⟩
  rw [← HR.out]
  simp
  try (first | omega | (rw [Bool.eq_iff_iff]; simp only [Bool.or_eq_true, Bool.and_eq_true, decide_eq_true_eq, beq_iff_eq]; omega))
theorem ym {s : ByteArray} (h : 0 < s.size) : dH s = (decide (s.size ≤ 16) && (decide (97 ≤ s[0].toNat) && (decide (s[0].toNat ≤ 122) && (bs s).all dG))) := by
 have hb : 0 < (bs s).length := by rw [fT]; exact h
 have hh : (bs s).headD 0 = s[0] := by
  have h0 : ∀ (l : List UInt8) (h : 0 < l.length), l.headD 0 = l[0] := fun l h => by
   cases l with
   | nil => cases h
   | cons a l => rfl
  exact h0 _ hb
 unfold dH gT
 rw [hh, decide_eq_true (show 1 ≤ s.size from h), Bool.true_and, Bool.eq_iff_iff]
 simp only [Bool.and_eq_true, decide_eq_true_eq]
 constructor
 ·rintro ⟨⟨h1, h2⟩, h3⟩
  have := List.all_eq_true.1 h2 s[0] (show (bs s)[0] ∈ bs s from List.getElem_mem hb)
  unfold dG at this
  simp only [Bool.or_eq_true, Bool.and_eq_true, decide_eq_true_eq] at this
  exact ⟨h1, by omega, by omega, h2⟩
 ·rintro ⟨h1, h2, h3, h4⟩
  exact ⟨⟨h1, h4⟩, by omega⟩
theorem Dz {s : ByteArray} (h : ¬ 0 < s.size) : dH s = false := by
 unfold dH gT
 rw [decide_eq_false (show ¬ 1 ≤ s.size from h)]; rfl
theorem DX (s : ByteArray) (w : World) (hs : s.size ≤ maxLen) : Calls Tryz.prog 222 #[.string s] w fun e w' => e = .returned (.bool (dH s)) ∧ w = w' := by
 unfold maxLen at hs
 have hl := fT s
 by_cases h0 : 0 < s.size
 ·rw [ym h0]
  obtain ⟨r, hr⟩ : ∃ r, (decide (s.size ≤ 16) && (decide (97 ≤ s[0].toNat) && (decide (s[0].toNat ≤ 122) && (bs s).all dG))) = r := ⟨_, rfl⟩
  rw [hr]
  have HR := qh hr
  have h1 : ¬ (s.size : Int) < 1 := by omega
  have hx256 : (s[0].toNat : Int) < 256 := by have := s[0].toNat_lt; omega
  clear hr
  by_cases h16 : s.size ≤ 16
  ·have Xt : ¬ (16 : Int) < (s.size : Int) := by omega
   by_cases h97 : 97 ≤ s[0].toNat
   ·have Xp : ¬ (s[0].toNat : Int) < 97 := by omega
    by_cases h122 : s[0].toNat ≤ 122
    ·have RV : ¬ (122 : Int) < (s[0].toNat : Int) := by omega
     have hr2 : (bs s).all dG = r := by rw [← HR.out, decide_eq_true h16, decide_eq_true h97, decide_eq_true h122]; rfl
     have HR2 := qh hr2
     clear hr2 HR h97 h122 h16
     go_enter Tryz.func222, Tryz.ntmps222
     go_wp2
     go_loopw [3] (fun i wr => ∃ k : Nat, k ≤ s.size ∧ i = .int .i64 k ∧ ((bs s).take k).all dG = true ∧ w = wr) (fun i _ => s.size - (RowKit.intOf i).toNat)
     case atStart => exact ⟨0, by omega, rfl, rfl, rfl⟩
     case round =>
      obtain ⟨k, hk, rfl, aI, rfl⟩ := hrel
      have bf := qh aI
      clear aI
      by_cases hlt : k < s.size
      ·have cB : (k : Int) < (s.size : Int) := by omega
       have hk0 : (0 : Int) ≤ (k : Int) := by omega
       have hkb : k < (bs s).length := by rw [hl]; exact hlt
       have hk256 : (s[k].toNat : Int) < 256 := by have := s[k].toNat_lt; omega
       have dU := fM dG (bs s) k hkb
       rw [bf.out, Bool.true_and] at dU
       have hc := vw s[k] w
       cases hcs : dG s[k] with
       | true =>
         rw [hcs] at hc
         have HC := qh hc
         have ou := qh (dU.trans hcs)
         clear hc dU hcs
         go_wp2_with fail
         refine HC.out.mono ?_
         rintro e w1 ⟨rfl, rfl⟩
         go_wp2
         go_roundw
         case rel => exact ⟨k + 1, by omega, by go_num, ou.out, trivial⟩
         case measure => simp [RowKit.intOf]; omega
       | false =>
         rw [hcs] at hc
         obtain rfl : r = false := by
          rw [← HR2.out, List.all_eq_false]
          exact ⟨s[k], List.getElem_mem hkb, by rw [hcs]; decide⟩
         have HC := qh hc
         clear hc dU hcs
         go_wp2_with fail
         refine HC.out.mono ?_
         rintro e w1 ⟨rfl, rfl⟩
         go_wp2
         go_ret
         exact ⟨rfl, rfl⟩
      ·obtain rfl : k = s.size := by omega
       obtain rfl : r = true := by
        rw [← HR2.out]
        have := bf.out
        rwa [List.take_of_length_le (by rw [hl]; exact Nat.le_refl _)] at this
       go_wp2
       go_ret
       exact ⟨rfl, rfl⟩
    ·have RV : (122 : Int) < (s[0].toNat : Int) := by omega
     obtain rfl : r = false := by rw [← HR.out, decide_eq_true h16, decide_eq_true h97, decide_eq_false h122]; rfl
     clear HR h97 h122 h16
     go_enter Tryz.func222, Tryz.ntmps222
     go_wp2
     go_ret
     exact ⟨rfl, rfl⟩
   ·have Xp : (s[0].toNat : Int) < 97 := by omega
    obtain rfl : r = false := by rw [← HR.out, decide_eq_true h16, decide_eq_false h97]; rfl
    clear HR h97 h16
    go_enter Tryz.func222, Tryz.ntmps222
    go_wp2
    go_ret
    exact ⟨rfl, rfl⟩
  ·have Xt : (16 : Int) < (s.size : Int) := by omega
   obtain rfl : r = false := by rw [← HR.out, decide_eq_false h16]; rfl
   clear HR h16
   go_enter Tryz.func222, Tryz.ntmps222
   go_wp2
   go_ret
   exact ⟨rfl, rfl⟩
 ·rw [Dz h0]
  have h1 : (s.size : Int) < 1 := by omega
  clear h0
  go_enter Tryz.func222, Tryz.ntmps222
  go_wp2
  go_ret
  exact ⟨rfl, rfl⟩
theorem zq (s : ByteArray) (w : World) (hs : s.size ≤ maxLen) : Calls Tryz.prog 224 #[.string s] w fun e w' => e = .returned (.bool (iO s)) ∧ w = w' := by
 unfold maxLen at hs
 have hl := fT s
 obtain ⟨r, hr⟩ : ∃ r, iO s = r := ⟨_, rfl⟩
 rw [hr]
 unfold iO gT at hr
 have HR := qh hr
 clear hr
 by_cases h0 : 1 ≤ s.size
 ·have h1 : ¬ (s.size : Int) < 1 := by omega
  by_cases h4 : s.size ≤ 4
  ·have RP : ¬ (4 : Int) < (s.size : Int) := by omega
   have hr2 : (bs s).all tY = r := by rw [← HR.out, decide_eq_true h0, decide_eq_true h4]; rfl
   have HR2 := qh hr2
   clear hr2 HR h0 h4
   go_enter Tryz.func224, Tryz.ntmps224
   go_wp2
   go_loopw [3] (fun i wr => ∃ k : Nat, k ≤ s.size ∧ i = .int .i64 k ∧ ((bs s).take k).all tY = true ∧ w = wr) (fun i _ => s.size - (RowKit.intOf i).toNat)
   case atStart => exact ⟨0, by omega, rfl, rfl, rfl⟩
   case round =>
    obtain ⟨k, hk, rfl, aI, rfl⟩ := hrel
    have bf := qh aI
    clear aI
    by_cases hlt : k < s.size
    ·have cB : (k : Int) < (s.size : Int) := by omega
     have hk0 : (0 : Int) ≤ (k : Int) := by omega
     have hkb : k < (bs s).length := by rw [hl]; exact hlt
     have hk256 : (s[k].toNat : Int) < 256 := by have := s[k].toNat_lt; omega
     have dU := fM tY (bs s) k hkb
     rw [bf.out, Bool.true_and] at dU
     have hc := vw s[k] w
     have hc2 := MO s[k] w
     have hsy := IJ s[k]
     cases hcs : dG s[k] with
     | true =>
       rw [hcs] at hc hsy
       have HC := qh hc
       have ou := qh (dU.trans (hsy.trans (Bool.true_or _)))
       clear hc hc2 dU hcs hsy
       go_wp2_with fail
       refine HC.out.mono ?_
       rintro e w1 ⟨rfl, rfl⟩
       go_wp2
       go_roundw
       case rel => exact ⟨k + 1, by omega, by go_num, ou.out, trivial⟩
       case measure => simp [RowKit.intOf]; omega
     | false =>
       rw [hcs] at hc hsy
       cases hbs : Ha s[k] with
       | true =>
         rw [hbs] at hc2 hsy
         have HC := qh hc; have ig := qh hc2
         have ou := qh (dU.trans hsy)
         clear hc hc2 dU hcs hsy hbs
         go_wp2_with fail
         refine HC.out.mono ?_
         rintro e w1 ⟨rfl, rfl⟩
         go_wp2_with fail
         refine ig.out.mono ?_
         rintro e w1 ⟨rfl, rfl⟩
         go_wp2
         go_roundw
         case rel => exact ⟨k + 1, by omega, by go_num, ou.out, trivial⟩
         case measure => simp [RowKit.intOf]; omega
       | false =>
         rw [hbs] at hc2 hsy
         obtain rfl : r = false := by
          rw [← HR2.out, List.all_eq_false]
          exact ⟨s[k], List.getElem_mem hkb, by rw [hsy]; decide⟩
         have HC := qh hc; have ig := qh hc2
         clear hc hc2 dU hcs hsy hbs
         go_wp2_with fail
         refine HC.out.mono ?_
         rintro e w1 ⟨rfl, rfl⟩
         go_wp2_with fail
         refine ig.out.mono ?_
         rintro e w1 ⟨rfl, rfl⟩
         go_wp2
         go_ret
         exact ⟨rfl, rfl⟩
    ·obtain rfl : k = s.size := by omega
     obtain rfl : r = true := by
      rw [← HR2.out]
      have := bf.out
      rwa [List.take_of_length_le (by rw [hl]; exact Nat.le_refl _)] at this
     go_wp2
     go_ret
     exact ⟨rfl, rfl⟩
  ·have RP : (4 : Int) < (s.size : Int) := by omega
   obtain rfl : r = false := by rw [← HR.out, decide_eq_true h0, decide_eq_false h4]; rfl
   clear HR h4 h0
   go_enter Tryz.func224, Tryz.ntmps224
   go_wp2
   go_ret
   exact ⟨rfl, rfl⟩
 ·have h1 : (s.size : Int) < 1 := by omega
  obtain rfl : r = false := by rw [← HR.out, decide_eq_false h0]; rfl
  clear HR h0
  go_enter Tryz.func224, Tryz.ntmps224
  go_wp2
  go_ret
  exact ⟨rfl, rfl⟩
def RInv (w : World) (S : Nat → Prop) (g : Nat) (fs : List ByteArray) (L : List fw) : Prop := ∃ A1 c1 v,
 (Blk w g 255 #[.bool true, .slice A1 fs.length c1, v] ∧ S g) ∧
 (w.ownsRow 0 9 1 (.slice A1 fs.length c1) fs.length (fs.map Value.string) ∧ ∀ b, (Value.slice A1 fs.length c1).ownBlock = some b → S b) ∧
 (w.ownsRow 0 74 3 v L.length (L.flatMap eP) ∧ ∀ b, v.ownBlock = some b → S b) ∧ Fz fs L
section
variable {w w' : World} {S T : Nat → Prop} {g : Nat} {fs : List ByteArray} {L : List fw}
theorem RInv.ok (h : RInv w S g fs L) : Fz fs L := by obtain ⟨_, _, _, _, _, _, h⟩ := h; exact h
theorem RInv.mono (h : RInv w S g fs L) (hs : ∀ b, S b → T b) : RInv w T g fs L := by
 obtain ⟨A1, c1, v, ⟨h1, h2⟩, ⟨h3, h4⟩, ⟨h5, h6⟩, h7⟩ := h
 exact ⟨A1, c1, v, ⟨h1, hs _ h2⟩, ⟨h3, fun b hb => hs _ (h4 b hb)⟩, ⟨h5, fun b hb => hs _ (h6 b hb)⟩, h7⟩
theorem RInv.aB (h : RInv w S g fs L) (hc : bA T w w') (ht : ∀ b, S b → ¬ T b) : RInv w' S g fs L := by
 obtain ⟨A1, c1, v, ⟨h1, h2⟩, ⟨h3, h4⟩, ⟨h5, h6⟩, h7⟩ := h
 exact ⟨A1, c1, v, ⟨h1.dQ hc (ht _ h2), h2⟩, ⟨bH h3 hc (fun k hk => ht _ (h4 k hk)), h4⟩, ⟨bH h5 hc (fun k hk => ht _ (h6 k hk)), h6⟩, h7⟩
theorem RInv.below (h : RInv w S g fs L) (hb : Below w.heap.size w w') : RInv w' S g fs L := h.aB (T := fun _ => False) (.of_below hb) (fun _ _ h => h)
theorem nC (h : RInv w S g fs L) : Calls Tryz.prog 223 #[af g] w fun e w' => e = .returned (.bool true) ∧ w = w' := by
 obtain ⟨A1, c1, v, ⟨h1, -⟩, -⟩ := h
 have c0 := h1.cell 0
 simp only [gq2] at c0
 clear h1
 go_enter Tryz.func223, Tryz.ntmps223
 go_wp2
 go_ret
 exact ⟨rfl, rfl⟩
end
theorem Bv {s : ByteArray} (h : dH s = true) : s.size ≤ 16 := by
 by_cases h0 : 0 < s.size
 ·rw [ym h0] at h
  simp only [Bool.and_eq_true, decide_eq_true_eq] at h
  exact h.1
 ·omega
def Cs (w : World) (fs : List ByteArray) (e : Ending) (w' : World) : Prop :=
 Below w.heap.size w w' ∧ ((eO fs = 0 ∧ ∃ g, e = .returned (.tuple #[af g, .int .i64 0]) ∧ RInv w' (ni w w') g fs []) ∨ (eO fs ≠ 0 ∧ e = .returned (.tuple #[.pointer none, .int .i64 (eO fs)])))
theorem za {w w' : World} {fs : List ByteArray} (x : Int) (hb : Below w.heap.size w w') (h : eO fs = x) (hx : x ≠ 0) : Cs w fs (.returned (.tuple #[.pointer none, .int .i64 x])) w' :=
 ⟨hb, .inr ⟨by rw [h]; exact hx, by rw [h]⟩⟩
theorem I6 (A : Option Addr) (n c B : Nat) (fs : List ByteArray) (w : World) (hr : ReadS w B A n fs) (hB : B ≤ w.heap.size) (hn : n ≤ c) (hs : ∀ s ∈ fs, s.size ≤ maxLen) :
 Calls Tryz.prog 193 #[.slice A n c] w (Cs w fs) := by
 obtain ⟨i2, hi2, hy0, hy1, hy2⟩ := info_parts (show (Tryz.prog.info? 9).map (fun i => (i.zero, i.size, i.bytes)) = some (some (.string ByteArray.empty), 1, 16) by kernel_rfl)
 have hfl := hr.len
 subst hfl
 have HR := qh hr; have HS := qh hs
 clear hr hs
 by_cases h24 : 24 < fs.length
 ·have vL : (24 : Int) < (fs.length : Int) := by omega
  have hE : eO fs = 12 := by unfold eO; rw [if_pos h24]
  have HE := qh hE
  clear h24 hE
  go_enter Tryz.func193, Tryz.ntmps193
  go_wp2
  go_ret2
  exact za 12 (Below.refl _ _) HE.out (by decide)
 ·have vL : ¬ (24 : Int) < (fs.length : Int) := by omega
  have hE0 : eO fs = if fs.all dH then (if (fs.map bs).Nodup then 0 else 6) else 15 := by unfold eO; rw [if_neg h24]
  have qy := qh hE0
  clear hE0
  go_enter Tryz.func193, Tryz.ntmps193
  go_wp2
  go_loopw [4] (fun i wr => ∃ k : Nat, k ≤ fs.length ∧ i = .int .i64 k ∧ (fs.take k).all dH = true ∧ w = wr) (fun i _ => fs.length - (RowKit.intOf i).toNat)
  case atStart => exact ⟨0, by omega, rfl, rfl, rfl⟩
  case round =>
   obtain ⟨k, hk, rfl, aI, rfl⟩ := hrel
   have bf := qh aI
   clear aI
   by_cases hlt : k < fs.length
   ·have cB : (k : Int) < (fs.length : Int) := by omega
    have hk0 : (0 : Int) ≤ (k : Int) := by omega
    obtain ⟨ad, rfl, had, hcell⟩ := HR.out.at_ hlt
    have hc := DX fs[k] w (HS.out _ (List.getElem_mem hlt))
    have dU : (fs.take (k + 1)).all dH = dH fs[k] := by rw [List.take_succ_eq_append_getElem hlt, List.all_append, bf.out]; simp
    have aS := rQ hlt
    generalize fs[k] = s at *
    cases hf : dH s with
    | true =>
      rw [hf] at hc dU
      have HC := qh hc; have ou := qh dU
      clear hc dU aS hf
      go_wp2_with fail
      refine HC.out.mono ?_
      rintro e w1 ⟨rfl, rfl⟩
      go_wp2
      go_roundw
      case rel => exact ⟨k + 1, by omega, by go_num, ou.out, trivial⟩
      case measure => simp [RowKit.intOf]; omega
    | false =>
      rw [hf] at hc
      have hE : eO fs = 15 := by rw [qy.out, aS hf]; rfl
      have HC := qh hc; have HE := qh hE
      clear hc dU aS hf hE
      go_wp2_with fail
      refine HC.out.mono ?_
      rintro e w1 ⟨rfl, rfl⟩
      go_wp2
      go_ret2
      exact za 15 (Below.refl _ _) HE.out (by decide)
   ·obtain rfl : k = fs.length := by omega
    have aI := bf.out
    rw [List.take_length] at aI
    have HA := qh aI
    clear aI bf hlt
    go_wp2
    go_loopw [5] (fun i wr => ∃ k : Nat, k ≤ fs.length ∧ i = .int .i64 k ∧ ((fs.take k).map bs).Nodup ∧ Below w.heap.size w wr) (fun i _ => fs.length - (RowKit.intOf i).toNat)
    case atStart => exact ⟨0, by omega, rfl, List.nodup_nil, Below.refl _ _⟩
    case round =>
     obtain ⟨k, hk, rfl, eQ, hb⟩ := hrel
     have CO := qh eQ; have HB := qh hb
     obtain ⟨W, rfl⟩ : ∃ W, W = wr := ⟨_, rfl⟩
     clear eQ hb
     by_cases hlt : k < fs.length
     ·have cB : (k : Int) < (fs.length : Int) := by omega
      have hk0 : (0 : Int) ≤ (k : Int) := by omega
      have hnt := uY hlt CO.out
      have VK := qh hnt
      clear hnt
      go_wp2
      go_loopw [6] (fun j wr => ∃ m : Nat, m ≤ k ∧ j = .int .i64 m ∧ ((fs.take m).any fun t => decide (bs t = bs fs[k])) = false ∧ Below w.heap.size w wr) (fun j _ => k - (RowKit.intOf j).toNat)
      case atStart => exact ⟨0, by omega, rfl, rfl, HB.out⟩
      case round =>
       obtain ⟨m, hm, rfl, hany, hb2⟩ := hrel
       have Qv := qh hany; have HB2 := qh hb2
       obtain ⟨W2, rfl⟩ : ∃ W, W = wr := ⟨_, rfl⟩
       clear hany hb2
       by_cases hmk : m < k
       ·have Qg : (m : Int) < (k : Int) := by omega
        have hm0 : (0 : Int) ≤ (m : Int) := by omega
        have Ms : m < fs.length := by omega
        have WJ : (m : Int) < (fs.length : Int) := by omega
        obtain ⟨ad, rfl, had, hc1⟩ := ReadS.at_ (Reads.below HR.out (HB2.out.mono hB)) hlt
        obtain ⟨ad2, e2, -, hc2⟩ := ReadS.at_ (Reads.below HR.out (HB2.out.mono hB)) Ms
        obtain rfl := Option.some.inj e2
        have hbeq : (fs[k].toList == fs[m].toList) = decide (bs fs[m] = bs fs[k]) := by rw [oQ]; exact decide_eq_decide.2 ⟨fun h => h.symm, fun h => h.symm⟩
        have dU : ((fs.take (m + 1)).any fun t => decide (bs t = bs fs[k])) = decide (bs fs[m] = bs fs[k]) := by rw [List.take_succ_eq_append_getElem Ms, List.any_append, Qv.out]; simp
        have eu : bs fs[m] = bs fs[k] → ¬ (fs.map bs).Nodup := fun h eQ => by
         have h1 := VK.out.1 (((List.take_sublist (k + 1) _).map bs).nodup eQ)
         rw [List.any_eq_false] at h1
         exact h1 _ (List.mem_take_iff_getElem.2 ⟨m, by omega, rfl⟩) (decide_eq_true h)
        generalize fs[k] = s at *
        generalize fs[m] = s2 at *
        by_cases hsm : bs s2 = bs s
        ·have hE : eO fs = 6 := by rw [qy.out, if_pos HA.out, if_neg (eu hsm)]
         rw [decide_eq_true hsm] at hbeq
         have HE := qh hE
         clear dU eu hsm hE
         go_wp2
         go_region
         go_wp2
         go_ret2
         exact za 6 HB2.out.drew HE.out (by decide)
        ·rw [decide_eq_false hsm] at hbeq dU
         have ou := qh dU
         clear dU eu hsm
         go_wp2
         go_region
         go_wp2
         go_roundw
         case rel => exact ⟨m + 1, by omega, by go_num, ou.out, HB2.out.drew⟩
         case measure => simp [RowKit.intOf]; omega
       ·obtain rfl : m = k := by omega
        have eQ := VK.out.2 Qv.out
        have Nb := qh eQ
        clear eQ Qv hmk
        go_wp2
        go_roundw
        case rel => exact ⟨m + 1, by omega, by go_num, Nb.out, HB2.out⟩
        case measure => simp [RowKit.intOf]; omega
     ·obtain rfl : k = fs.length := by omega
      have hE : eO fs = 0 := by rw [qy.out, if_pos HA.out, if_pos (by have := CO.out; rwa [List.take_length] at this)]
      have HE := qh hE
      have Xr : fs.length ≤ 24 := by omega
      have hsz := HB.out.size
      have hown := eZ W 9 1
      have hr' := Reads.alloc (Reads.below HR.out (HB.out.mono hB)) (show B ≤ W.heap.size by omega) (.cells #[] 9)
      have yM := qh hr'
      clear hE hlt hr'
      go_wp2_with (at_builtin; refine wpList_append_any _ rfl _ _ _ rfl W.heap.size 9 i2 (.string ByteArray.empty) 1 16 Tryz.underlying22 hi2 hy0 hy1 hy2 rfl (by decide) _ _ _ rfl hown B _ _ _ (fs.map Value.string) rfl yM.out (mE fs) (by unfold maxLen; omega) (by omega) (by simp) ?_; intro v' w1 ai ag hx; have hb1 : Below W.heap.size W w1 := ((Below.refl _ W).alloc (Nat.le_refl _) _).grown ag (by simp) (fun g hg => (hown.lt g hg).1); obtain ⟨A1, c1, rfl, -, -⟩ := ownsRow_form ai; have HO := qh ai; have HB1 := qh hb1; clear ag hx ai hb1)
      go_ret2
      have hb1 := HB1.out
      have ai := HO.out
      have hsz1 := hb1.size
      simp only [Nat.zero_add, List.nil_append] at ai ⊢
      refine ⟨(HB.out.trans (hb1.mono (by omega))).trans ((Below.refl _ w1).alloc (by omega) _), .inl ⟨HE.out, _, rfl, A1, c1, .slice none 0 0, ⟨Blk.new _ _ _, ⟨by omega, by rw [World.size_alloc]; omega⟩⟩, ⟨dh (ai.alloc _) (Nat.zero_le _), (fun b hb => by have := ai.lt b hb; refine ⟨by omega, ?_⟩; rw [World.size_alloc]; omega)⟩, ⟨World.ownsRow_nil _ _ _ _, fun b hb => by cases hb⟩, ⟨Xr, fun s hs => Bv (List.all_eq_true.1 HA.out s hs), by simp, (fun x hx => by cases hx), List.nodup_nil⟩⟩⟩
theorem BZ (f : Nat) (w : World) (hf : f < 24) : Calls Tryz.prog 245 #[.int .i64 f] w fun e w' => e = .returned (.bool true) ∧ w = w' := by
 have h0 : (0 : Int) ≤ (f : Int) := by omega
 have h1 : (f : Int) < 24 := by omega
 clear hf
 go_enter Tryz.func245, Tryz.ntmps245
 go_wp2
 go_ret
 exact ⟨rfl, rfl⟩
def xg (s : Snd) (f : Nat) : Int := if s.1.testBit f then 1 else if s.2.testBit f then -1 else 0
theorem MG (s : Snd) (f : Nat) (w : World) (hf : f < 24) (hs : ok32 s) (hv : ax s = true) : Calls Tryz.prog 239 #[jy s, .int .i64 f] w fun e w' => e = .returned (.int .i64 (xg s f)) ∧ Below w.heap.size w w' := by
 have h0 : (0 : Int) ≤ (f : Int) := by omega
 have h1 : (f : Int) < 24 := by omega
 have ha := tH s.1 f hs.1
 have hb := tH s.2 f hs.2
 have hc1 := fun w => gy s w hs
 rw [hv] at hc1
 have hc2 := fun w => BZ f w hf
 have hg : xg s f = if s.1.testBit f then 1 else if s.2.testBit f then -1 else 0 := rfl
 have ow := qh hc1; have ig := qh hc2
 clear hc1 hc2 hf hs hv
 generalize xg s f = r at *
 obtain ⟨p, q⟩ := s
 go_enter Tryz.func239, Tryz.ntmps239
 cases Fe : p.testBit f with
 | true =>
   rw [Fe] at ha hg
   simp only [if_true] at ha hg
   subst hg
   clear hb Fe
   go_wp2_with fail
   refine (ow.out _).mono ?_
   rintro e w1 ⟨rfl, hb1⟩
   have c0 := (Blk.new w 55 #[.int .u32 p, .int .u32 q]).below hb1 (by simp)
   have k0 := c0.cell 0
   have k1 := c0.cell 1
   simp only [gq2] at k0 k1
   have HB := qh (((Below.refl _ w).alloc (Nat.le_refl _) (.cells #[.int .u32 p, .int .u32 q] 55)).trans (hb1.mono (by simp)))
   clear hb1 c0
   go_wp2_with fail
   refine (ig.out _).mono ?_
   rintro e w2 ⟨rfl, rfl⟩
   go_wp2
   go_ret
   exact ⟨rfl, HB.out⟩
 | false =>
   rw [Fe] at ha hg
   simp only [Bool.false_eq_true, if_false] at ha hg
   clear Fe
   cases htb : q.testBit f with
   | true =>
     rw [htb] at hb hg
     simp only [if_true] at hb hg
     subst hg
     clear htb
     go_wp2_with fail
     refine (ow.out _).mono ?_
     rintro e w1 ⟨rfl, hb1⟩
     have c0 := (Blk.new w 55 #[.int .u32 p, .int .u32 q]).below hb1 (by simp)
     have k0 := c0.cell 0
     have k1 := c0.cell 1
     simp only [gq2] at k0 k1
     have HB := qh (((Below.refl _ w).alloc (Nat.le_refl _) (.cells #[.int .u32 p, .int .u32 q] 55)).trans (hb1.mono (by simp)))
     clear hb1 c0
     go_wp2_with fail
     refine (ig.out _).mono ?_
     rintro e w2 ⟨rfl, rfl⟩
     go_wp2
     go_ret
     exact ⟨rfl, HB.out⟩
   | false =>
     rw [htb] at hb hg
     simp only [Bool.false_eq_true, if_false] at hb hg
     subst hg
     clear htb
     go_wp2_with fail
     refine (ow.out _).mono ?_
     rintro e w1 ⟨rfl, hb1⟩
     have c0 := (Blk.new w 55 #[.int .u32 p, .int .u32 q]).below hb1 (by simp)
     have k0 := c0.cell 0
     have k1 := c0.cell 1
     simp only [gq2] at k0 k1
     have HB := qh (((Below.refl _ w).alloc (Nat.le_refl _) (.cells #[.int .u32 p, .int .u32 q] 55)).trans (hb1.mono (by simp)))
     clear hb1 c0
     go_wp2_with fail
     refine (ig.out _).mono ?_
     rintro e w2 ⟨rfl, rfl⟩
     go_wp2
     go_ret
     exact ⟨rfl, HB.out⟩
theorem yE {s : Snd} {f : Nat} : xg s f = 0 ↔ (s.1 ||| s.2).testBit f = false := by
 unfold xg
 rw [Nat.testBit_or]
 cases s.1.testBit f <;> cases s.2.testBit f <;> simp
theorem zA {n : Nat} {s : Snd} (hn : n ≤ 24) : dJ n s = true ↔ ax s = true ∧ ∀ f, n ≤ f → f < 24 → xg s f = 0 := by
 unfold dJ ax
 rw [decide_eq_true_iff, decide_eq_true_iff]
 constructor
 ·rintro ⟨h1, h2⟩
  refine ⟨⟨h1, Nat.lt_of_lt_of_le h2 (Nat.pow_le_pow_right (by decide) hn : 2 ^ n ≤ 2 ^ 24)⟩, fun f hf _ => yE.2 ?_⟩
  exact Nat.testBit_lt_two_pow (Nat.lt_of_lt_of_le h2 (Nat.pow_le_pow_right (by decide) hf))
 ·rintro ⟨⟨h1, h2⟩, h3⟩
  refine ⟨h1, Nat.lt_pow_two_of_testBit _ fun f hf => ?_⟩
  rcases Nat.lt_or_ge f 24 with h | h
  ·exact yE.1 (h3 f hf h)
  ·exact Nat.testBit_lt_two_pow (Nat.lt_of_lt_of_le h2 (Nat.pow_le_pow_right (by decide) h : 2 ^ 24 ≤ 2 ^ f))
theorem zb {w : World} {S : Nat → Prop} {g : Nat} {fs : List ByteArray} {L : List fw} (h : RInv w S g fs L) (s : Snd) (hs : ok32 s) :
 Calls Tryz.prog 225 #[af g, jy s] w fun e w' => e = .returned (.bool (dJ fs.length s)) ∧ Below w.heap.size w w' := by
 have h24 := h.ok.f24
 obtain ⟨A1, c1, v, ⟨h1, -⟩, -⟩ := h
 have hbb := zA (s := s) h24
 have hlt := h1.lt
 generalize fs.length = n at *
 have h1' : ∀ w' : World, Below w.heap.size w w' → Blk w' g 255 #[.bool true, .slice A1 n c1, v] := fun _ hb => h1.below hb hlt
 have hc1 := fun w => gy s w hs
 have hc2 := fun (f : Nat) (hf : f < 24) (hv : ax s = true) w => MG s f w hf hs hv
 have ow := qh hc1; have ig := qh hc2
 generalize hr : dJ n s = r at *
 have EJ := qh hbb
 clear hbb hc1 hc2 hs h1
 go_enter Tryz.func225, Tryz.ntmps225
 cases hv : ax s with
 | false =>
   obtain rfl : r = false := by
    cases r with
    | false => rfl
    | true => have := (EJ.out.1 rfl).1; rw [hv] at this; cases this
   rw [hv] at ow
   obtain ⟨p, q⟩ := s
   clear hv ig EJ hr h1'
   go_wp2_with fail
   refine (ow.out _).mono ?_
   rintro e w1 ⟨rfl, hb1⟩
   have HB := qh (((Below.refl _ w).alloc (Nat.le_refl _) (.cells #[.int .u32 p, .int .u32 q] 55)).trans (hb1.mono (by simp)))
   clear hb1
   go_wp2
   go_ret
   exact ⟨rfl, HB.out⟩
 | true =>
   have Vg := fun f hf => ig.out f hf hv
   rw [hv] at ow EJ
   have HV := qh Vg
   have HBC := qh h1'
   obtain ⟨p, q⟩ := s
   clear hv ig Vg hr h1'
   go_wp2_with fail
   refine (ow.out _).mono ?_
   rintro e w1 ⟨rfl, hb1⟩
   have hw1 : Below w.heap.size w w1 := ((Below.refl _ w).alloc (Nat.le_refl _) (.cells #[.int .u32 p, .int .u32 q] 55)).trans (hb1.mono (by simp))
   have c0 := (Blk.new w 55 #[.int .u32 p, .int .u32 q]).below hb1 (by simp)
   have d0 := (HBC.out _ hw1).cell 1
   simp only [gq2] at d0
   have hsz1 := hw1.size
   have hsz2 := hb1.size
   rw [World.size_alloc] at hsz2
   have HB := qh hw1; have YE := qh c0
   clear hb1 c0 hw1
   go_wp2
   go_loopw [5] (fun i wr => ∃ k : Nat, n ≤ k ∧ k ≤ 24 ∧ i = .int .i64 k ∧ (∀ f, n ≤ f → f < k → xg (p, q) f = 0) ∧ Below w1.heap.size w1 wr) (fun i _ => 24 - (RowKit.intOf i).toNat)
   case atStart => exact ⟨n, Nat.le_refl _, h24, rfl, fun f h1 h2 => by omega, Below.refl _ _⟩
   case round =>
    obtain ⟨k, hnk, hk, rfl, aI, hb⟩ := hrel
    obtain ⟨W, rfl⟩ : ∃ W, W = wr := ⟨_, rfl⟩
    have bf := qh aI; have aQ := qh hb
    have cc := YE.out.below hb (by omega)
    have k0 := cc.cell 0
    have k1 := cc.cell 1
    simp only [gq2] at k0 k1
    have hsz := hb.size
    clear aI hb cc
    by_cases hlt : k < 24
    ·have cB : (k : Int) < 24 := by omega
     go_wp2_with fail
     refine (HV.out k hlt _).mono ?_
     rintro e w2 ⟨rfl, hb2⟩
     have HB2 := qh (hb2.mono (show w1.heap.size ≤ W.heap.size from hsz))
     clear hb2
     by_cases h0 : xg (p, q) k = 0
     ·rw [h0]
      go_wp2
      go_roundw
      case rel => exact ⟨k + 1, by omega, by omega, by go_num, fun f h1 h2 => by
       rcases Nat.lt_or_ge f k with h | h
       ·exact bf.out f h1 h
       ·obtain rfl : f = k := by omega
        exact h0, aQ.out.trans HB2.out⟩
      case measure => simp [RowKit.intOf]; omega
     ·have hr0 : r = false := by
       cases r with
       | false => rfl
       | true => exact absurd ((EJ.out.1 rfl).2 k hnk hlt) h0
      subst hr0
      have hI : (xg (p, q) k == (0 : Int)) = false := by rw [beq_eq_false_iff_ne]; exact h0
      generalize xg (p, q) k = z at *
      go_wp2
      go_ret
      exact ⟨rfl, HB.out.trans ((aQ.out.trans HB2.out).mono hsz1)⟩
    ·obtain rfl : k = 24 := by omega
     have hr1 : r = true := EJ.out.2 ⟨trivial, bf.out⟩
     subst hr1
     go_wp2
     go_ret
     exact ⟨rfl, HB.out.trans (aQ.out.mono hsz1)⟩
theorem Gd (c : UInt8) : kH c = decide (c.toNat = 58 ∨ c.toNat = 39 ∨ c.toNat = 34 ∨ c.toNat = 126 ∨ c.toNat = 94 ∨ c.toNat = 95 ∨ c.toNat = 61 ∨ c.toNat = 96) := by
 rw [Bool.eq_iff_iff]
 simp [kH, ← UInt8.toNat_inj]
theorem IZ (c : UInt8) (w : World) : Calls Tryz.prog 226 #[.int .u8 c.toNat] w fun e w' => e = .returned (.bool (kH c)) ∧ w = w' := by
 have hc := c.toNat_lt
 obtain ⟨r, hr⟩ : ∃ r, kH c = r := ⟨_, rfl⟩
 rw [hr]
 rw [Gd] at hr
 generalize c.toNat = n at *
 have HR := qh hr
 clear hr
 go_enter Tryz.func226, Tryz.ntmps226
 go_wp2
 all_goals
  go_ret
  refine ⟨?_, rfl⟩
  rw [← HR.out]
  simp
  try (first | omega | (rw [Bool.eq_iff_iff]; simp only [Bool.or_eq_true, Bool.and_eq_true, decide_eq_true_eq, beq_iff_eq]; omega))
theorem zm (s : ByteArray) (w : World) (hs : s.size ≤ maxLen) : Calls Tryz.prog 196 #[.string s] w fun e w' => e = .returned (.bool (gP s)) ∧ w = w' := by
 unfold maxLen at hs
 have hl := fT s
 obtain ⟨r, hr⟩ : ∃ r, gP s = r := ⟨_, rfl⟩
 rw [hr]
 unfold gP gT at hr
 have HR := qh hr
 clear hr
 go_enter Tryz.func196, Tryz.ntmps196
 go_wp2
 go_loopw [3] (fun i wr => ∃ k : Nat, k ≤ s.size ∧ i = .int .i64 k ∧ ((bs s).take k).all kH = true ∧ w = wr) (fun i _ => s.size - (RowKit.intOf i).toNat)
 case atStart => exact ⟨0, by omega, rfl, rfl, rfl⟩
 case round =>
  obtain ⟨k, hk, rfl, aI, rfl⟩ := hrel
  have bf := qh aI
  clear aI
  by_cases hlt : k < s.size
  ·have cB : (k : Int) < (s.size : Int) := by omega
   have hk0 : (0 : Int) ≤ (k : Int) := by omega
   have hkb : k < (bs s).length := by rw [hl]; exact hlt
   have hk256 : (s[k].toNat : Int) < 256 := by have := s[k].toNat_lt; omega
   have dU := fM kH (bs s) k hkb
   rw [bf.out, Bool.true_and] at dU
   have hc := IZ s[k] w
   cases hcs : kH s[k] with
   | true =>
     rw [hcs] at hc
     have HC := qh hc
     have ou := qh (dU.trans hcs)
     clear hc dU hcs
     go_wp2_with fail
     refine HC.out.mono ?_
     rintro e w1 ⟨rfl, rfl⟩
     go_wp2
     go_roundw
     case rel => exact ⟨k + 1, by omega, by go_num, ou.out, trivial⟩
     case measure => simp [RowKit.intOf]; omega
   | false =>
     rw [hcs] at hc
     obtain rfl : r = false := by
      have h : (bs s).all kH = false := List.all_eq_false.2 ⟨s[k], List.getElem_mem hkb, by rw [hcs]; decide⟩
      rw [← HR.out, h, Bool.and_false]
     have HC := qh hc
     clear hc dU hcs
     go_wp2_with fail
     refine HC.out.mono ?_
     rintro e w1 ⟨rfl, rfl⟩
     go_wp2
     go_ret
     exact ⟨rfl, rfl⟩
  ·obtain rfl : k = s.size := by omega
   have hal : (bs s).all kH = true := by
    have := bf.out
    rwa [List.take_of_length_le (by rw [hl]; exact Nat.le_refl _)] at this
   have hr := HR.out
   rw [hal, Bool.and_true] at hr
   by_cases h1 : 1 ≤ s.size
   ·have yz : (1 : Int) ≤ (s.size : Int) := by omega
    by_cases h3 : s.size ≤ 3
    ·have RU : (s.size : Int) ≤ 3 := by omega
     obtain rfl : r = true := by rw [← hr, decide_eq_true h1, decide_eq_true h3]; rfl
     clear hr h1 h3
     go_wp2
     go_ret
     exact ⟨rfl, rfl⟩
    ·have RU : ¬ (s.size : Int) ≤ 3 := by omega
     obtain rfl : r = false := by rw [← hr, decide_eq_true h1, decide_eq_false h3]; rfl
     clear hr h1 h3
     go_wp2
     go_ret
     exact ⟨rfl, rfl⟩
   ·have yz : ¬ (1 : Int) ≤ (s.size : Int) := by omega
    obtain rfl : r = false := by rw [← hr, decide_eq_false h1]; rfl
    clear hr h1
    go_wp2
    go_ret
    exact ⟨rfl, rfl⟩
section
variable {w : World} {S : Nat → Prop} {g : Nat} {fs : List ByteArray} {L : List fw}
theorem uI (h : RInv w S g fs L) : Calls Tryz.prog 195 #[af g] w fun e w' => ∃ v, e = .returned v ∧ w'.ownsRow w.heap.size 9 1 v fs.length (fs.map Value.string) ∧ Below w.heap.size w w' := by
 obtain ⟨i2, hi2, hy0, hy1, hy2⟩ := info_parts (show (Tryz.prog.info? 9).map (fun i => (i.zero, i.size, i.bytes)) = some (some (.string ByteArray.empty), 1, 16) by kernel_rfl)
 have hmd := nC h
 have h24 := h.ok.f24
 obtain ⟨A1, c1, v, ⟨h1, -⟩, ⟨h3, -⟩, -⟩ := h
 have hg1 := (h1.alloc (.cells #[] 9)).cell 1
 simp only [gq2] at hg1
 have hown := eZ w 9 1
 have hr := (Reads.of_own h3).alloc (Nat.le_refl _) (.cells #[] 9)
 have EF := qh hmd; have HR := qh hr; have bD := qh hown
 clear hmd h1 h3 hr hown
 go_enter Tryz.func195, Tryz.ntmps195
 go_wp2_with fail
 refine EF.out.mono ?_
 rintro e w1 ⟨rfl, rfl⟩
 go_wp2_with (at_builtin; refine wpList_append_any _ rfl _ _ _ rfl w.heap.size 9 i2 (.string ByteArray.empty) 1 16 Tryz.underlying22 hi2 hy0 hy1 hy2 rfl (by decide) _ _ _ rfl bD.out w.heap.size _ _ _ (fs.map Value.string) rfl HR.out (mE fs) (by unfold maxLen; omega) (by omega) (by simp) ?_; intro v' w1 ai ag hx; have HB1 := qh (((Below.refl _ w).alloc (Nat.le_refl _) (.cells #[] 9)).grown ag (by simp) (fun g hg => (bD.out.lt g hg).1)); have HO := qh ai; clear ag hx ai)
 go_ret
 exact ⟨_, rfl, by simpa using HO.out, HB1.out⟩
theorem AA (h : RInv w S g fs L) : Calls Tryz.prog 227 #[af g] w fun e w' => ∃ v, e = .returned v ∧ w'.ownsRow w.heap.size 74 3 v L.length (L.flatMap eP) ∧ Below w.heap.size w w' := by
 obtain ⟨i0, hi, hz0, hz1, hz2⟩ := info_parts (show (Tryz.prog.info? 74).map (fun i => (i.zero, i.size, i.bytes)) = some (some (.agg #[.string ByteArray.empty, .int .u32 0, .int .u32 0]), 3, 24) by kernel_rfl)
 have hmd := nC h
 have h256 := h.ok.l256
 obtain ⟨A1, c1, v, ⟨h1, -⟩, -, ⟨h3, -⟩, -⟩ := h
 obtain ⟨A2, c2, rfl, -, -⟩ := ownsRow_form h3
 have hg1 := (h1.alloc (.cells #[] 74)).cell 2
 simp only [gq2] at hg1
 have hown := eZ w 74 3
 have hr := (Reads.of_own h3).alloc (Nat.le_refl _) (.cells #[] 74)
 have EF := qh hmd; have HR := qh hr; have bD := qh hown
 clear hmd h1 h3 hr hown
 go_enter Tryz.func227, Tryz.ntmps227
 go_wp2_with fail
 refine EF.out.mono ?_
 rintro e w1 ⟨rfl, rfl⟩
 go_wp2_with (at_builtin; refine wpList_append_any _ rfl _ _ _ rfl w.heap.size 74 i0 (.agg #[.string ByteArray.empty, .int .u32 0, .int .u32 0]) 3 24 Tryz.underlying23 hi hz0 hz1 hz2 rfl (by decide) _ _ _ rfl bD.out w.heap.size _ _ _ (L.flatMap eP) rfl HR.out (BB L) (by unfold maxLen; omega) (by omega) (by simp) ?_; intro v' w1 ai ag hx; have HB1 := qh (((Below.refl _ w).alloc (Nat.le_refl _) (.cells #[] 74)).grown ag (by simp) (fun g hg => (bD.out.lt g hg).1)); have HO := qh ai; clear ag hx ai)
 go_ret
 exact ⟨_, rfl, by simpa using HO.out, HB1.out⟩
theorem Gw (h : RInv w S g fs L) : Calls Tryz.prog 198 #[af g] w fun e w' => ∃ g', e = .returned (af g') ∧ RInv w' (ni w w') g' fs L ∧ Below w.heap.size w w' := by
 have hmd := nC h
 have hf := uI h
 have hs := fun (w' : World) (hb : Below w.heap.size w w') => AA (h.below hb)
 have hok := h.ok
 have EF := qh hmd; have HF := qh hf; have HS := qh hs; have gW := qh hok
 clear hmd hf hs hok h
 go_enter Tryz.func198, Tryz.ntmps198
 go_wp2_with fail
 refine EF.out.mono ?_
 rintro e w1 ⟨rfl, rfl⟩
 go_wp2_with fail
 refine HF.out.mono ?_
 rintro e w1 ⟨v1, rfl, ho1, hb1⟩
 obtain ⟨A1, c1, rfl, -, -⟩ := ownsRow_form ho1
 have hS := HS.out w1 hb1
 have XV := qh hS; have oW := qh ho1; have HB1 := qh hb1
 clear hS ho1 hb1
 go_wp2_with fail
 refine XV.out.mono ?_
 rintro e w2 ⟨v2, rfl, ho2, hb2⟩
 obtain ⟨A2, c2, rfl, -, -⟩ := ownsRow_form ho2
 have jf := qh ho2; have HB2 := qh hb2
 have hs1 := HB1.out.size
 have hs2 := hb2.size
 clear ho2 hb2
 go_wp2
 go_ret
 have Ri := own_below oW.out HB2.out
 refine ⟨_, rfl, ⟨A1, c1, .slice A2 L.length c2, ⟨Blk.new _ _ _, ⟨by omega, by rw [World.size_alloc]; omega⟩⟩, ⟨dh (Ri.alloc _) (Nat.zero_le _), (fun b hb => by have := Ri.lt b hb; refine ⟨by omega, ?_⟩; rw [World.size_alloc]; omega)⟩, ⟨dh (jf.out.alloc _) (Nat.zero_le _), (fun b hb => by have := jf.out.lt b hb; refine ⟨by omega, ?_⟩; rw [World.size_alloc]; omega)⟩, gW.out⟩, (HB1.out.trans (HB2.out.mono hs1)).trans ((Below.refl _ w2).alloc (by omega) _)⟩
end
end Go.Proofs.YtmepaeahchiglaaGreatDoor
