/-
  The reference's 'pieces' and 'letter' of layer 39. Conditions: texts of at most 16,384 bytes (pieces).
-/
import Derived.Test.YtcdpadggjkobjaaDoorProg
import Derived.Test.YtcdpadggjkobjaaDoorMem
import Derived.Test.YtcdpadggjkobjaaDoorSpec
namespace Go.Proofs.YtcdpadggjkobjaaDoor
open Go.RowKit

def letterB (l : List UInt8) : Bool := decide (1 ≤ l.length) && decide (l.length ≤ 8) && l.all (fun c => decide (32 < c.toNat))
theorem letterB_short {l : List UInt8} (h : l.length < 1 ∨ 8 < l.length) : letterB l = false := by
  unfold letterB
  rcases h with h | h
  · rw [decide_eq_false (show ¬ 1 ≤ l.length by omega)]; rfl
  · rw [decide_eq_false (show ¬ l.length ≤ 8 by omega)]; simp
theorem letterB_bad {l : List UInt8} {k : Nat} (hk : k < l.length) (h : l[k].toNat ≤ 32) : letterB l = false := by
  have : l.all (fun c => decide (32 < c.toNat)) = false := by
    rw [List.all_eq_false]; exact ⟨l[k], List.getElem_mem hk, by simp; omega⟩
  unfold letterB; rw [this]; simp
theorem letterB_good {l : List UInt8} (h1 : 1 ≤ l.length) (h8 : l.length ≤ 8) (h : ∀ j (hj : j < l.length), 32 < l[j].toNat) : letterB l = true := by
  unfold letterB
  rw [decide_eq_true h1, decide_eq_true h8]
  simp only [Bool.and_self, Bool.true_and, List.all_eq_true, decide_eq_true_eq]
  intro c hc; obtain ⟨j, hj, rfl⟩ := List.getElem_of_mem hc; exact h j hj

set_option maxHeartbeats 400000 in
theorem refletter_any (s : ByteArray) (w : World) (hs : s.size ≤ maxLen) :
    Calls Tryd.prog 72 #[.string s] w fun e w' => e = .returned (.bool (letterB (bl s))) ∧ w = w' := by
  unfold maxLen at hs
  have hl : (bl s).length = s.size := by simp [bl]
  by_cases h1 : s.size < 1 ∨ 8 < s.size
  · have hb := letterB_short (l := bl s) (by simpa [bl] using h1)
    generalize letterB (bl s) = b at hb
    have HB := Lib.hid hb
    clear hb hl
    rcases h1 with h1 | h1
    all_goals
      go_enter Tryd.func72, Tryd.ntmps72
      go_wp2
      go_ret
      rw [HB.out]; exact ⟨rfl, rfl⟩
  · have h2 : 1 ≤ s.size := by omega
    have h3 : s.size ≤ 8 := by omega
    clear h1 hl
    go_enter Tryd.func72, Tryd.ntmps72
    go_wp2
    go_loop [3] (fun i => ∃ k : Nat, k ≤ s.size ∧ i = .int .i64 k ∧ ∀ j (hj : j < (bl s).length), j < k → 32 < (bl s)[j].toNat) (fun i => s.size - (intOf i).toNat)
    case atStart => exact ⟨0, Nat.zero_le _, rfl, fun j _ h => absurd h (by omega)⟩
    case round =>
      obtain ⟨k, hk, rfl, hall⟩ := hrel
      have HA := Lib.hid hall
      clear hall
      by_cases hlt : k < s.size
      · by_cases hc : s[k].toNat ≤ 32
        · go_wp2
          go_ret
          rw [letterB_bad (l := bl s) (k := k) (by simpa [bl] using hlt) hc]; exact ⟨rfl, rfl⟩
        · go_wp2
          go_round
          case rel => exact ⟨k + 1, by omega, by go_num, fun j hj hjk => if h : j = k then by subst h; exact Nat.lt_of_not_le hc else HA.out j hj (by omega)⟩
          case measure => simp [intOf]; omega
      · go_wp2
        go_ret
        rw [letterB_good (l := bl s) (by simpa [bl] using h2) (by simpa [bl] using h3) (fun j hj => HA.out j hj (by rw [bl_len] at hj; omega))]; exact ⟨rfl, rfl⟩

theorem info_string : (Tryd.prog.info? 9).map (fun i => (i.zero, i.size, i.bytes)) = some (some (.string ByteArray.empty), 1, 16) := by kernel_rfl

/-- A call hands back a new row of strings. -/
def GivesS (w : World) (ss : List ByteArray) (e : Ending) (w' : World) : Prop :=
  ∃ v, e = .returned v ∧ w'.ownsRow w.heap.size 9 1 v ss.length (ss.map Value.string) ∧ Below w.heap.size w w'

set_option maxRecDepth 20000 in
set_option maxHeartbeats 1000000 in
theorem refpieces_any (s : ByteArray) (w : World) (hs : s.size ≤ 16384) :
    Calls Tryd.prog 71 #[.string s] w (GivesS w (piecesB s)) := by
  obtain ⟨i0, hi, hz0, hz1, hz2⟩ := info_parts info_string
  have hle := piecesB_le s
  go_enter Tryd.func71, Tryd.ntmps71
  go_wp2
  go_loopw [3, 4, 5] (fun v f i wr => ∃ (k fr : Nat) (done : List ByteArray), k ≤ s.size + 1 ∧ fr ≤ s.size + 1 ∧ i = .int .i64 k ∧ f = .int .i64 fr ∧ wr.ownsRow w.heap.size 9 1 v done.length (done.map Value.string) ∧
      (k ≤ s.size → PiecesAt s fr k done) ∧ (k = s.size + 1 → piecesB s = done) ∧ done.length ≤ k ∧ Below w.heap.size w wr) (fun _ _ i _ => s.size + 1 - (intOf i).toNat)
  case atStart => exact ⟨0, 0, [], by omega, by omega, rfl, rfl, World.ownsRow_nil _ _ _ _, fun _ => piecesAt_start s, fun h => absurd h (by omega), Nat.le_refl _, Below.refl _ _⟩
  case round =>
    obtain ⟨k, fr, done, hk, hfr, rfl, rfl, hown, hP, hE, hdl, hb⟩ := hrel
    by_cases hlt : k ≤ s.size
    · have HP := Lib.hid (hP hlt)
      clear hP hE
      have hfk := HP.out.1
      have hM : done.length + 1 ≤ 16385 := by omega
      by_cases hlt2 : k < s.size
      · have hkb : ((k : Int) == s.size) = false := beq_eq_false_iff_ne.2 (by omega)
        by_cases hc : s[k].toNat = 32
        · have hcb : ((s[k].toNat : Int) == 32) = true := beq_iff_eq.2 (by omega)
          have HC := Lib.hid hc; clear hc
          go_wp2_with (at_builtin; refine wpList_append_own _ rfl _ _ 22 rfl w.heap.size 9 i0 (.string ByteArray.empty) 1 16 Tryd.underlying22 hi hz0 hz1 hz2 rfl (by decide) _ _ _ rfl (hown.alloc _) ⟨wr.heap.size, 0, none⟩ 1 1 [.string (s.extract fr k)] rfl rfl (cell_one_new _ _ _) (by simp [Value.oneCell']) (by unfold maxLen; omega) (by omega) (by have := hb.size; simp; omega) ?_; intro v' w1 hown' hgrow _)
          have hb1 : Below w.heap.size w w1 := (hb.alloc hb.size _).grown hgrow (by have := hb.size; simp; omega) (fun g hg => (hown.lt g hg).1)
          clear hgrow hown
          go_roundw
          case rel => exact ⟨k + 1, k + 1, done ++ [s.extract fr k], by omega, by omega, by go_num, by go_num, by simpa using hown', fun _ => piecesAt_cut HP.out hlt2 (UInt8.toNat_inj.1 HC.out), fun h => absurd h (by omega), by rw [List.length_append, List.length_singleton]; omega, hb1⟩
          case measure => simp [intOf]; omega
        · have hcb : ((s[k].toNat : Int) == 32) = false := beq_eq_false_iff_ne.2 (by omega)
          go_wp2
          go_roundw
          case rel => exact ⟨k + 1, fr, done, by omega, by omega, by go_num, rfl, hown, fun _ => piecesAt_go HP.out hlt2 (fun e => hc (by rw [e]; rfl)), fun h => absurd h (by omega), by omega, hb⟩
          case measure => simp [intOf]; omega
      · obtain rfl : k = s.size := by omega
        go_wp2_with (at_builtin; refine wpList_append_own _ rfl _ _ 22 rfl w.heap.size 9 i0 (.string ByteArray.empty) 1 16 Tryd.underlying22 hi hz0 hz1 hz2 rfl (by decide) _ _ _ rfl (hown.alloc _) ⟨wr.heap.size, 0, none⟩ 1 1 [.string (s.extract fr s.size)] rfl rfl (cell_one_new _ _ _) (by simp [Value.oneCell']) (by unfold maxLen; omega) (by omega) (by have := hb.size; simp; omega) ?_; intro v' w1 hown' hgrow _)
        have hb1 : Below w.heap.size w w1 := (hb.alloc hb.size _).grown hgrow (by have := hb.size; simp; omega) (fun g hg => (hown.lt g hg).1)
        clear hgrow hown
        go_roundw
        case rel => exact ⟨s.size + 1, s.size + 1, done ++ [s.extract fr s.size], by omega, by omega, by go_num, by go_num, by simpa using hown', fun h => absurd h (by omega), fun _ => piecesAt_end HP.out, by rw [List.length_append, List.length_singleton]; omega, hb1⟩
        case measure => simp [intOf]
    · have HE := Lib.hid (hE (by omega))
      clear hP hE
      go_wp2
      go_ret
      refine ⟨_, rfl, ?_, hb⟩
      rw [HE.out]; exact hown
end Go.Proofs.YtcdpadggjkobjaaDoor
