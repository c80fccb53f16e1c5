/-
  Layer 40: slices.SortFunc's choosePivot on a row of texts, compared by a method. Conditions: indices in the row.
-/
import Derived.Test.YtgkpoopiamicnaaDoorDtV5
namespace Go.Proofs.YtgkpoopiamicnaaDoor
open Go.RowKit Go.Lib
section
variable {α : Type} [Inhabited α] {enc : α → ByteArray} {B : Nat} {w0 W W' : World} {blk c s : Nat} {d : Array α}
def hintN : Sort.Hint → Int
  | .unknown => 0
  | .increasing => 1
  | .decreasing => 2
def PivPost (enc : α → ByteArray) (B : Nat) (w0 : World) (blk : Nat) (d : Array α) (r : Nat × Sort.Hint) (e : Ending) (W' : World) : Prop := e = .returned (.tuple #[.int .i64 r.1, .int .i64 (hintN r.2)]) ∧ StR enc B w0 blk d W'
/-- A counter, laid. -/
theorem StR.count (h : StR enc B w0 blk d W) (T : TypeId) : CntR enc B w0 blk d W.heap.size 0 (W.alloc (.cells #[.int .i64 0] T)) := by
  have hb := (Below.refl W.heap.size W).alloc (Nat.le_refl _) (.cells #[.int .i64 0] T)
  exact ⟨h.of_below hb, by simp, by simp, by have := h.lt; omega, by have := h.lt; have := h.ge; omega, by simp⟩
theorem median_in {lt : α → α → Bool} {N i j k s : Nat} (hi : i < N) (hj : j < N) (hk : k < N) : (Sort.median lt d i j k s).1 < N ∧ (Sort.median lt d i j k s).2 ≤ s + 3 := by
  unfold Sort.median
  have b1 := order2_in (lt := lt) (d := d) (s := s) hi hj
  have b2 := order2_in (lt := lt) (d := d) (s := (Sort.order2 lt d i j s).2.2) b1.2.1 hk
  have b3 := order2_in (lt := lt) (d := d) (s := (Sort.order2 lt d (Sort.order2 lt d i j s).2.1 k (Sort.order2 lt d i j s).2.2).2.2) b1.1 b2.1
  exact ⟨b3.2.1, Nat.le_trans b3.2.2 (by omega)⟩
set_option maxRecDepth 20000 in
set_option maxHeartbeats 8000000 in
theorem vpivot (cf : α → α → Int) (g : Nat) (hC : CmpM enc cf B w0 g) (cap a b : Nat) (hab : a + 12 < b) (hb : b ≤ d.size) (hsz : d.size ≤ 1000000) (h : StR enc B w0 blk d W) :
    Calls Tryd.prog 82 #[.slice (some ⟨blk, 0, none⟩) d.size cap, .int .i64 a, .int .i64 b, ordV g] W (PivPost enc B w0 blk d (Sort.choosePivot (ltC cf) d a b)) := by
  obtain ⟨n, hn⟩ : ∃ n, b - a = n := ⟨_, rfl⟩
  obtain ⟨m, hm⟩ : ∃ m, n / 4 = m := ⟨_, rfl⟩
  obtain ⟨i, hi⟩ : ∃ i, a + m = i := ⟨_, rfl⟩
  obtain ⟨j, hj⟩ : ∃ j, a + m * 2 = j := ⟨_, rfl⟩
  obtain ⟨k, hk⟩ : ∃ k, a + m * 3 = k := ⟨_, rfl⟩
  have hnz : (b : Int) - (a : Int) = (n : Int) := by omega
  have hmz : (n : Int).tdiv 4 = (m : Int) := by rw [← hm]; rfl
  have hiz : (a : Int) + (m : Int) = (i : Int) := by omega
  have hjz : (a : Int) + (m : Int) * 2 = (j : Int) := by omega
  have hkz : (a : Int) + (m : Int) * 3 = (k : Int) := by omega
  have wn := wrapN (n := n) (by omega); have wm := wrapN (n := m) (by omega); have wi := wrapN (n := i) (by omega); have wj := wrapN (n := j) (by omega); have wk := wrapN (n := k) (by omega)
  have w2 : IntKind.i64.wrap ((m : Int) * 2) = (m : Int) * 2 := by rw [IntKind.wrap_i64]; omega
  have w3 : IntKind.i64.wrap ((m : Int) * 3) = (m : Int) * 3 := by rw [IntKind.wrap_i64]; omega
  have hn8 : (8 : Int) ≤ (n : Int) := by omega
  obtain ⟨lt, hlt⟩ : ∃ lt, ltC cf = lt := ⟨_, rfl⟩
  have hcnt := h.count 3
  obtain ⟨c, hc⟩ : ∃ c, W.heap.size = c := ⟨_, rfl⟩
  rw [hc] at hcnt
  have h8 : 8 ≤ n := by omega
  by_cases h50 : 50 ≤ n
  · have h50z : (50 : Int) ≤ (n : Int) := by omega
    obtain ⟨ri, hri⟩ : ∃ r, Sort.medianAdjacent (ltC cf) d i 0 = r := ⟨_, rfl⟩
    obtain ⟨rj, hrj⟩ : ∃ r, Sort.medianAdjacent (ltC cf) d j ri.2 = r := ⟨_, rfl⟩
    obtain ⟨rk, hrk⟩ : ∃ r, Sort.medianAdjacent (ltC cf) d k rj.2 = r := ⟨_, rfl⟩
    obtain ⟨r, hr⟩ : ∃ r, Sort.median (ltC cf) d ri.1 rj.1 rk.1 rk.2 = r := ⟨_, rfl⟩
    have b1 := median_in (lt := ltC cf) (d := d) (N := d.size) (i := i - 1) (j := i) (k := i + 1) (s := 0) (by omega) (by omega) (by omega)
    rw [show Sort.median (ltC cf) d (i - 1) i (i + 1) 0 = Sort.medianAdjacent (ltC cf) d i 0 from rfl, hri] at b1
    have b2 := median_in (lt := ltC cf) (d := d) (N := d.size) (i := j - 1) (j := j) (k := j + 1) (s := ri.2) (by omega) (by omega) (by omega)
    rw [show Sort.median (ltC cf) d (j - 1) j (j + 1) ri.2 = Sort.medianAdjacent (ltC cf) d j ri.2 from rfl, hrj] at b2
    have b3 := median_in (lt := ltC cf) (d := d) (N := d.size) (i := k - 1) (j := k) (k := k + 1) (s := rj.2) (by omega) (by omega) (by omega)
    rw [show Sort.median (ltC cf) d (k - 1) k (k + 1) rj.2 = Sort.medianAdjacent (ltC cf) d k rj.2 from rfl, hrk] at b3
    have b4 := median_in (lt := ltC cf) (d := d) (s := rk.2) b1.1 b2.1 b3.1
    rw [hr] at b4
    have q1 := vadjacent cf g hC cap i (by omega) (by omega) (by omega) hsz hcnt
    have q2 := fun W (h : CntR enc B w0 blk d c ri.2 W) => vadjacent cf g hC cap j (by omega) (by omega) (by omega) hsz h
    have q3 := fun W (h : CntR enc B w0 blk d c rj.2 W) => vadjacent cf g hC cap k (by omega) (by omega) (by omega) hsz h
    have q4 := fun W (h : CntR enc B w0 blk d c rk.2 W) => vmedian cf g hC cap ri.1 rj.1 rk.1 b1.1 b2.1 b3.1 (by omega) hsz h
    have HP := Lib.hid (show Sort.choosePivot (ltC cf) d a b = (r.1, if r.2 = 0 then .increasing else if r.2 = 12 then .decreasing else .unknown) by
      unfold Sort.choosePivot
      simp only [hn, hm, Nat.mul_one, hi, hj, hk, if_pos h8, if_pos h50, hri, hrj, hrk, hr])
    rw [hri] at q1; rw [hrj] at q2; rw [hrk] at q3; rw [hr] at q4
    have hrs : r.2 ≤ 100 := by omega
    obtain ⟨N, hN⟩ : ∃ N, d.size = N := ⟨_, rfl⟩
    rw [hN] at q1 q2 q3 q4 ⊢
    have Q1 := Lib.hid q1; have Q2 := Lib.hid q2; have Q3 := Lib.hid q3; have Q4 := Lib.hid q4; have HCT := Lib.hid hcnt; have HCc := Lib.hid hc
    obtain ⟨ri1, ri2⟩ := ri
    obtain ⟨rj1, rj2⟩ := rj
    obtain ⟨rk1, rk2⟩ := rk
    obtain ⟨r1, r2⟩ := r
    clear hn hm hi hj hk hri hrj hrk hr q1 q2 q3 q4 hN hcnt h hC b1 b2 b3 b4 hlt hab hb hsz
    go_enter Tryd.func82, Tryd.ntmps82
    go_wp2_with fail
    refine Q1.out.mono ?_
    rintro e w1 ⟨rfl, k1⟩
    have K2 := Q2.out w1 k1
    clear k1
    go_wp2_with fail
    refine K2.mono ?_
    rintro e w2 ⟨rfl, k2⟩
    have K3 := Q3.out w2 k2
    clear k2 K2
    go_wp2_with fail
    refine K3.mono ?_
    rintro e w3 ⟨rfl, k3⟩
    have K4 := Q4.out w3 k3
    clear k3 K3
    go_wp2_with fail
    refine K4.mono ?_
    rintro e w4 ⟨rfl, k4⟩
    have HK := Lib.hid k4
    have d1 := k4.cell
    clear k4 K4
    rcases (by omega : r2 = 0 ∨ r2 = 12 ∨ (r2 ≠ 0 ∧ r2 ≠ 12)) with rfl | rfl | ⟨z0, z1⟩
    · go_wp2
      go_ret2
      exact show PivPost enc B w0 blk d _ _ _ by rw [HP.out]; exact ⟨rfl, HK.out.st⟩
    · go_wp2
      go_ret2
      exact show PivPost enc B w0 blk d _ _ _ by rw [HP.out]; exact ⟨rfl, HK.out.st⟩
    · have z2 : ¬ (r2 : Int) = 0 := by omega
      have z3 : ¬ (r2 : Int) = 12 := by omega
      have HP2 := Lib.hid (show Sort.choosePivot (ltC cf) d a b = (r1, .unknown) by rw [HP.out, if_neg z0, if_neg z1])
      go_wp2
      go_ret2
      exact show PivPost enc B w0 blk d _ _ _ by rw [HP2.out]; exact ⟨rfl, HK.out.st⟩
  · have h50z : ¬ (50 : Int) ≤ (n : Int) := by omega
    obtain ⟨r, hr⟩ : ∃ r, Sort.median (ltC cf) d i j k 0 = r := ⟨_, rfl⟩
    have b4 := median_in (lt := ltC cf) (d := d) (N := d.size) (i := i) (j := j) (k := k) (s := 0) (by omega) (by omega) (by omega)
    rw [hr] at b4
    have q4 := vmedian cf g hC cap i j k (by omega) (by omega) (by omega) (by omega) hsz hcnt
    have HP := Lib.hid (show Sort.choosePivot (ltC cf) d a b = (r.1, if r.2 = 0 then .increasing else if r.2 = 12 then .decreasing else .unknown) by
      unfold Sort.choosePivot
      simp only [hn, hm, Nat.mul_one, hi, hj, hk, if_pos h8, if_neg h50, hr])
    rw [hr] at q4
    have hrs : r.2 ≤ 100 := by omega
    obtain ⟨N, hN⟩ : ∃ N, d.size = N := ⟨_, rfl⟩
    rw [hN] at q4 ⊢
    have Q4 := Lib.hid q4; have HCc := Lib.hid hc
    obtain ⟨r1, r2⟩ := r
    clear hn hm hi hj hk hr q4 hN hcnt h hC b4 hlt hab hb hsz
    go_enter Tryd.func82, Tryd.ntmps82
    go_wp2_with fail
    refine Q4.out.mono ?_
    rintro e w4 ⟨rfl, k4⟩
    have HK := Lib.hid k4
    have d1 := k4.cell
    clear k4
    rcases (by omega : r2 = 0 ∨ r2 = 12 ∨ (r2 ≠ 0 ∧ r2 ≠ 12)) with rfl | rfl | ⟨z0, z1⟩
    · go_wp2
      go_ret2
      exact show PivPost enc B w0 blk d _ _ _ by rw [HP.out]; exact ⟨rfl, HK.out.st⟩
    · go_wp2
      go_ret2
      exact show PivPost enc B w0 blk d _ _ _ by rw [HP.out]; exact ⟨rfl, HK.out.st⟩
    · have z2 : ¬ (r2 : Int) = 0 := by omega
      have z3 : ¬ (r2 : Int) = 12 := by omega
      have HP2 := Lib.hid (show Sort.choosePivot (ltC cf) d a b = (r1, .unknown) by rw [HP.out, if_neg z0, if_neg z1])
      go_wp2
      go_ret2
      exact show PivPost enc B w0 blk d _ _ _ by rw [HP2.out]; exact ⟨rfl, HK.out.st⟩
end
end Go.Proofs.YtgkpoopiamicnaaDoor
