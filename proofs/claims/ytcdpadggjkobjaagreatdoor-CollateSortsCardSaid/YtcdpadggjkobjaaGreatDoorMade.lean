/-
  layer 39: the statements' own 'made'. Conditions: at most 300 texts of at most 3,000 bytes in all; the cell of the library's MaxLen holds some int.
-/
import Derived.Test.YtcdpadggjkobjaaGreatDoorNews
namespace Go.Proofs.YtcdpadggjkobjaaGreatDoor
open Go.RowKit Go.Lib

def MadePost (w : World) (e : Ending) (w' : World) : Prop :=
  ∃ g ls, e = .returned (.pointer (some ⟨g, 0, none⟩)) ∧ Alph w' g (groupsB ls) ∧ GoodG (groupsB ls) ∧ newErr ls = 0 ∧ ls.length ≤ 60 ∧ totalS ls ≤ 3000 ∧ Below w.heap.size w w'
theorem totalS_snoc (ls : List ByteArray) (x : ByteArray) : totalS (ls ++ [x]) = totalS ls + x.size := by simp [totalS]
set_option maxRecDepth 20000 in
set_option maxHeartbeats 4000000 in
theorem madeF_any (A : Option Addr) (n c : Nat) (ss : List ByteArray) (w : World) (hm : MaxOk w) (hr : ReadS w w.heap.size A n ss) (hn : n ≤ 300) (hnc : n ≤ c) (_hc : c ≤ maxLen) (ht : totalS ss ≤ 3000) :
    Calls Tryz.prog 6 #[.slice A n c] w (MadePost w) := by
  obtain ⟨i0, hi, hz0, hz1, hz2⟩ := info_parts info_string
  have HL := Lib.hid hr.len
  have hc := _hc
  unfold maxLen at hc
  have hnew := fun W (h : Below w.heap.size w W) A n c ss hr hn ht => new_any A n c ss W (hm.below h) hr hn ht
  have HNEW := Lib.hid hnew; clear hnew hm
  obtain ⟨m, hmn, hm60, hmin⟩ : ∃ m : Nat, m ≤ n ∧ m ≤ 60 ∧ (min (n : Int) 60) = m := ⟨min n 60, by omega, by omega, by omega⟩
  have hmax : max (m : Int) 0 = m := by omega
  go_enter Tryz.func6, Tryz.ntmps6
  go_wp2
  clear hmin hmax
  go_loopw [3, 16] (fun v i wr => ∃ (k : Nat) (ls : List ByteArray), k ≤ m ∧ i = .int .i64 k ∧ wr.ownsRow w.heap.size 9 1 v ls.length (strs ls) ∧ newErr ls = 0 ∧ totalS ls ≤ totalS (ss.take k) ∧ ls.length ≤ k ∧ Below w.heap.size w wr) (fun _ i _ => m - (intOf i).toNat)
  case atStart => exact ⟨0, [], by omega, rfl, World.ownsRow_nil _ _ _ _, by decide +kernel, Nat.zero_le _, Nat.le_refl _, Below.refl _ _⟩
  case round =>
    obtain ⟨k, ls, hk, rfl, hown, herr, htot, hlen, hb⟩ := hrel
    have HERR := Lib.hid herr; clear herr
    obtain ⟨A1, c1, rfl, hc1, hc2⟩ := ownsRow_form hown
    by_cases hlt : k < m
    · have hkl : k < ss.length := by rw [HL.out]; omega
      have hrr := hr.below hb
      obtain ⟨ad, rfl, had, hcx⟩ := ReadS.at_ (k := k) hrr hkl
      have ht1 := totalS_succ ss k hkl
      have ht2 := totalS_take ss (k + 1)
      have hsn := totalS_snoc ls ss[k]
      generalize ss[k] = x at hcx ht1 hsn
      have hcl := cloneS_any A1 ls.length c1 ls wr _ (Reads.of_own hown) (Nat.le_refl _) (by omega)
      have HT1 := Lib.hid ht1; have HSN := Lib.hid hsn; clear ht1 hsn
      go_wp2_with fail
      refine hcl.mono ?_
      rintro e w1 ⟨v1, rfl, ho1, hb1⟩
      obtain ⟨A2, c2, rfl, hc21, hc22⟩ := ownsRow_form ho1
      have hown1 := own_below hown hb1
      clear hcl hcx
      go_wp2_with (at_builtin; refine wpList_append_own _ rfl _ _ 22 rfl wr.heap.size 9 i0 (.string ByteArray.empty) 1 16 Tryz.underlying22 hi hz0 hz1 hz2 rfl (by decide) _ _ _ rfl (ho1.alloc _) ⟨w1.heap.size, 0, none⟩ 1 1 [.string x] rfl rfl (cell_one_new _ _ _) (by simp [Value.oneCell']) (by unfold maxLen; omega) (by omega) (by have := hb1.size; simp; omega) ?_; intro v' w2 hown' hgrow hx; clear hx)
      have hb12 : Below wr.heap.size wr w2 := (hb1.alloc hb1.size _).grown hgrow (by have := hb1.size; simp; omega) (fun g hg => (ho1.lt g hg).1)
      have hbw2 := hb.trans (hb12.mono hb.size)
      obtain ⟨A3, c3, rfl, hc31, hc32⟩ := ownsRow_form hown'
      have hr3 : ReadS w2 w2.heap.size A3 (ls.length + 1) (ls ++ [x]) := by have := Reads.of_own hown'; unfold ReadS; simpa using this
      clear hgrow hown1 ho1
      refine (HNEW.out w2 hbw2 A3 _ c3 (ls ++ [x]) hr3 (by omega) (by rw [HSN.out]; rw [HT1.out] at ht2; omega)).mono ?_
      rintro e w3 ⟨hno, hok, hb3⟩
      have hb13 := hb12.trans (hb3.mono hb12.size)
      have hown3 := own_below hown hb13
      have hbw3 := hb.trans (hb13.mono hb.size)
      by_cases hE : newErr (ls ++ [x]) = 0
      · obtain ⟨g, rfl, _, _⟩ := hok hE
        have HE := Lib.hid hE
        clear hno hok hE hown' hown
        go_wp2_with (at_builtin; refine wpList_append_own _ rfl _ _ 22 rfl w.heap.size 9 i0 (.string ByteArray.empty) 1 16 Tryz.underlying22 hi hz0 hz1 hz2 rfl (by decide) _ _ _ rfl (hown3.alloc _) ⟨w3.heap.size, 0, none⟩ 1 1 [.string x] rfl rfl (cell_one_new _ _ _) (by simp [Value.oneCell']) (by unfold maxLen; omega) (by omega) (by have := hbw3.size; simp; omega) ?_; intro v' w4 hown4 hgrow hx; clear hx)
        have hb4 : Below w.heap.size w w4 := (hbw3.alloc hbw3.size _).grown hgrow (by have := hbw3.size; simp; omega) (fun g hg => (hown3.lt g hg).1)
        clear hgrow hown3
        go_roundw
        case rel =>
          refine ⟨k + 1, ls ++ [x], by omega, by go_num, by simpa using hown4, HE.out, ?_, by simp; omega, hb4⟩
          rw [HSN.out, HT1.out]; omega
        case measure => simp [intOf]; omega
      · obtain rfl := hno hE
        have hE' : (newErr (ls ++ [x]) == 0) = false := by rw [beq_eq_false_iff_ne]; exact hE
        clear hno hok hE hown' hown
        go_wp2
        go_roundw
        case rel => exact ⟨k + 1, ls, by omega, by go_num, hown3, HERR.out, by rw [HT1.out]; omega, by omega, hbw3⟩
        case measure => simp [intOf]; omega
    · obtain rfl : k = m := by omega
      have ht2 := totalS_take ss k
      go_wp2_with fail
      refine (HNEW.out wr hb A1 _ c1 ls (Reads.of_own hown) (by omega) (by omega)).mono ?_
      rintro e w3 ⟨_, hok, hb3⟩
      obtain ⟨g, rfl, hA, hG⟩ := hok HERR.out
      have HA := Lib.hid hA; have HG := Lib.hid hG
      clear hok hA hG
      go_wp2
      go_ret
      exact ⟨g, ls, rfl, HA.out, HG.out, HERR.out, by omega, by omega, hb.trans (hb3.mono hb.size)⟩
end Go.Proofs.YtcdpadggjkobjaaGreatDoor
