/-
  Layer 40: slices.SortFunc's breakPatterns on a row of texts. Conditions: indices in the row.
-/
import Derived.Test.YtgkpoopiamicnaaDoorDtV6
import Derived.Test.YtgkpoopiamicnaaDoorShelf3
import Derived.Shelf.SlSortCmp.Xorshift
import Derived.Sort.LotD1
import Derived.Sort.LotD5
namespace Go.Proofs.YtgkpoopiamicnaaDoor
open Go.RowKit Go.Lib
/-- The row, and a box. -/
structure BoxR {α : Type} [Inhabited α] (enc : α → ByteArray) (B : Nat) (w0 : World) (blk : Nat) (d : Array α) (c : Nat) (v : Value) (W : World) : Prop where
  st : StR enc B w0 blk d W
  cell : W.cell? ⟨c, 0, none⟩ = some v
  frz : W.frozen? ⟨c, 0, none⟩ = false
  ne : c ≠ blk
  ge : B ≤ c
  lt : c < W.heap.size
theorem rnd_next (c X : Nat) (hX : X < 18446744073709551616) (W : World) (hc : W.cell? ⟨c, 0, none⟩ = some (.int .u64 X)) (hf : W.frozen? ⟨c, 0, none⟩ = false) :
    Calls Tryd.prog 101 #[.pointer (some ⟨c, 0, none⟩)] W fun e W' => e = .returned (.int .u64 (Sort.xorNextN X : Nat)) ∧ W' = (W.setCell ⟨c, 0, none⟩ (.int .u64 (Sort.xorNextN X : Nat))).drewN 3 :=
  AnyF.xorshift_Next Tryd.xorNx c 0 X hX W hc hf
theorem pow_next (n : Nat) (hn : n < 4611686018427387904) (W : World) : Calls Tryd.prog 100 #[.int .i64 n] W fun e W' => e = .returned (.int .u64 ((1 <<< Sort.bitsLen n : Nat) : Int)) ∧ W' = W :=
  AnyF.nextPowerOfTwo Tryd.nextP n hn W
section
variable {α : Type} [Inhabited α] {enc : α → ByteArray} {B : Nat} {w0 W W' : World} {blk c : Nat} {d : Array α} {v : Value}
theorem BoxR.drewN (h : BoxR enc B w0 blk d c v W) (n : Nat) : BoxR enc B w0 blk d c v (W.drewN n) := by
  have hb : Below W.heap.size W (W.drewN n) := ⟨rfl, rfl, rfl, Nat.le_refl _, fun _ _ => rfl⟩
  exact ⟨h.st.of_below hb, by rw [hb.cell h.lt]; exact h.cell, by rw [hb.frozen h.lt]; exact h.frz, h.ne, h.ge, h.lt⟩
theorem BoxR.put (h : BoxR enc B w0 blk d c v W) (u : Value) : BoxR enc B w0 blk d c u (W.setCell ⟨c, 0, none⟩ u) := by
  refine BoxR.mk (StR.mk (h.st.below.setCell (p := ⟨c, 0, none⟩) h.ge _) h.st.ge (by simpa using h.st.lt) (fun i hi => ?_) (fun i hi => ?_) (h.st.obj.setCell _ _)) (World.cell?_setCell_same _ _ _ h.cell) (by rw [World.frozen?_setCell]; exact h.frz) h.ne h.ge (by simpa using h.lt)
  · rw [World.cell?_setCell_other _ _ _ _ (by intro e'; simp only [Addr.mk.injEq] at e'; exact h.ne e'.1)]; exact h.st.cell i hi
  · rw [World.frozen?_setCell]; exact h.st.frz i hi
theorem StR.box (h : StR enc B w0 blk d W) (u : Value) (T : TypeId) : BoxR enc B w0 blk d W.heap.size u (W.alloc (.cells #[u] T)) := by
  have hb := (Below.refl W.heap.size W).alloc (Nat.le_refl _) (.cells #[u] T)
  exact ⟨h.of_below hb, by simp, by simp, by have := h.lt; omega, by have := h.lt; have := h.ge; omega, by simp⟩
theorem BoxR.swapN (h : BoxR enc B w0 blk d c v W) {i j N : Nat} {x y : ByteArray} (hN : d.size = N) (hi : i < N) (hj : j < N) (hx : enc d[i]! = x) (hy : enc d[j]! = y) : BoxR enc B w0 blk (Sort.swp d i j) c v ((W.setCell ⟨blk, i, none⟩ (.string y)).setCell ⟨blk, j, none⟩ (.string x)).drew := by
  refine BoxR.mk (h.st.swapN hN hi hj hx hy) ?_ ?_ h.ne h.ge (by simpa using h.lt)
  · show ((W.setCell ⟨blk, i, none⟩ (.string y)).setCell ⟨blk, j, none⟩ (.string x)).cell? _ = _
    rw [World.cell?_setCell_other _ _ _ _ (by intro e'; simp only [Addr.mk.injEq] at e'; exact h.ne e'.1.symm), World.cell?_setCell_other _ _ _ _ (by intro e'; simp only [Addr.mk.injEq] at e'; exact h.ne e'.1.symm)]; exact h.cell
  · show ((W.setCell ⟨blk, i, none⟩ (.string y)).setCell ⟨blk, j, none⟩ (.string x)).frozen? _ = _
    rw [World.frozen?_setCell, World.frozen?_setCell]; exact h.frz
theorem and_u64 (X M : Nat) (hX : X < 18446744073709551616) (hM : 1 ≤ M) (hM2 : M ≤ 18446744073709551616) : bits BinOp.and IntKind.u64 (X : Int) ((M : Int) - 1) = ((X &&& (M - 1) : Nat) : Int) := by
  rw [show ((M : Int) - 1) = ((M - 1 : Nat) : Int) by omega, bits_and_u64_nat _ _ hX (by omega)]
/-- So many steps. -/
def brk (d : Array α) (a n p : Nat) : Nat → UInt64 × Array α
  | 0 => (UInt64.ofNat n, d)
  | k + 1 => Sort.breakStep a n (1 <<< Sort.bitsLen n) (brk d a n p k) (p + k)
theorem brk_size (d : Array α) (a n p : Nat) : ∀ k, (brk d a n p k).2.size = d.size
  | 0 => rfl
  | k + 1 => by unfold brk Sort.breakStep; rw [Sort.size_swp]; exact brk_size d a n p k
theorem brk_next {a n p t M x X O o q r : Nat} {dk : Array α} (hM : 1 <<< Sort.bitsLen n = M) (hb : brk d a n p t = (UInt64.ofNat r, dk)) (hr : r < 18446744073709551616) (hx : p + t = x) (hX : Sort.xorNextN r = X) (hO : X &&& (M - 1) = O) (ho : (if O ≥ n then O - n else O) = o) (hq : a + o = q) :
    brk d a n p (t + 1) = (UInt64.ofNat X, Sort.swp dk x q) := by
  have e : Sort.xorNext (UInt64.ofNat r) = UInt64.ofNat X := by
    apply UInt64.toNat_inj.1
    have h1 : (UInt64.ofNat r).toNat = r := UInt64.toNat_ofNat_of_lt' hr
    have h2 : (UInt64.ofNat X).toNat = X := UInt64.toNat_ofNat_of_lt' (by rw [← hX]; exact Sort.xorNextN_lt _ hr)
    rw [Sort.xorNext_toNat, h1, h2, hX]
  have e2 : (Sort.xorNext (UInt64.ofNat r)).toNat = X := by
    rw [Sort.xorNext_toNat, UInt64.toNat_ofNat_of_lt' hr, hX]
  rw [brk.eq_2, hM, hx, hb]
  unfold Sort.breakStep
  rw [← hq, ← ho, ← hO, ← e]
  simp only [e2]
structure BrkF (a n m p M N : Nat) : Prop where
  han : a + n ≤ N
  hpn : p + 3 ≤ N
  M1 : 1 ≤ M
  Mn : M ≤ 2 * n
  hN : N ≤ 1000000
  hp : a + m * 2 = p + 1
  n8 : 8 ≤ n
theorem brkF {a b N : Nat} (hab : a + 12 < b) (hb : b ≤ N) (hsz : N ≤ 1000000) {n m p M : Nat} (hn : b - a = n) (hm : n / 4 = m) (hp : a + m * 2 - 1 = p) (hM : 1 <<< Sort.bitsLen n = M) : BrkF a n m p M N := by
  have hMe : M = 2 ^ Sort.bitsLen n := by rw [← hM, Nat.one_shiftLeft]
  have h1 : 1 ≤ M := by rw [hMe]; exact Nat.one_le_two_pow
  have h2 : M ≤ 2 * n := by rw [hMe]; exact Sort.two_pow_bitsLen_le (by omega)
  exact ⟨by omega, by omega, h1, h2, hsz, by omega, by omega⟩
/-- One round's values. -/
theorem brk_round {a n m p M N r O X : Nat} (h : BrkF a n m p M N) (hr : r < 18446744073709551616) (hX : Sort.xorNextN r = X) (hO : X &&& (M - 1) = O) : bits BinOp.and IntKind.u64 (X : Int) ((M : Int) - 1) = (O : Int) ∧ O + 1 ≤ M := by
  have hXl : X < 18446744073709551616 := by rw [← hX]; exact Sort.xorNextN_lt _ hr
  have hMn := h.Mn; have han := h.han; have hN := h.hN; have hM1 := h.M1
  have hand := and_u64 X M hXl hM1 (by omega)
  rw [hO] at hand
  have hOl : O ≤ M - 1 := by rw [← hO]; exact Nat.and_le_right
  exact ⟨hand, by omega⟩
set_option maxRecDepth 20000 in
set_option maxHeartbeats 8000000 in
theorem vbreak (k : Value) (cap a b : Nat) (hab : a + 12 < b) (hb : b ≤ d.size) (hsz : d.size ≤ 1000000) (h : StR enc B w0 blk d W) :
    Calls Tryd.prog 81 #[.slice (some ⟨blk, 0, none⟩) d.size cap, .int .i64 a, .int .i64 b, k] W fun e W' => e = .returned (.tuple #[]) ∧ StR enc B w0 blk (Sort.breakPatterns d a b) W' := by
  obtain ⟨N, hN⟩ : ∃ N, d.size = N := ⟨_, rfl⟩
  have HN := Lib.hid hN
  rw [hN] at hb hsz ⊢
  obtain ⟨n, hn⟩ : ∃ n, b - a = n := ⟨_, rfl⟩
  obtain ⟨m, hm⟩ : ∃ m, n / 4 = m := ⟨_, rfl⟩
  obtain ⟨p, hp⟩ : ∃ p, a + m * 2 - 1 = p := ⟨_, rfl⟩
  obtain ⟨M, hM⟩ : ∃ M, 1 <<< Sort.bitsLen n = M := ⟨_, rfl⟩
  obtain ⟨u, hu⟩ : ∃ u, a + m * 2 = u := ⟨_, rfl⟩
  have HF := Lib.hid (brkF hab hb hsz hn hm hp hM)
  obtain ⟨han, hpn, hM1, hMn, -, hpu, hn8⟩ := HF.out
  have hnz : (b : Int) - (a : Int) = (n : Int) := by omega
  have hmz : (n : Int).tdiv 4 = (m : Int) := by rw [← hm]; rfl
  have huz : (a : Int) + (m : Int) * 2 = (u : Int) := by omega
  have hpz : (u : Int) - 1 = (p : Int) := by omega
  have w2 : IntKind.i64.wrap ((m : Int) * 2) = (m : Int) * 2 := by rw [IntKind.wrap_i64]; omega
  have w4 := wrapN (n := u) (by omega)
  have wn := wrapN (n := n) (by omega); have wm := wrapN (n := m) (by omega); have wp' := wrapN (n := p) (by omega)
  have hn8z : (8 : Int) ≤ (n : Int) := by omega
  have hnu : IntKind.u64.wrap (n : Int) = (n : Int) := by simp [IntKind.wrap, IntKind.bits, IntKind.signed]; omega
  obtain ⟨c, hc⟩ : ∃ c, W.heap.size = c := ⟨_, rfl⟩
  have hbx := h.box (.int .u64 n) 131
  rw [hc] at hbx
  have HBX := Lib.hid hbx
  have hpw := pow_next n (by omega)
  rw [hM] at hpw
  have HPW := Lib.hid hpw
  have HBP := Lib.hid (show ∀ dk r, brk d a n p 3 = (UInt64.ofNat r, dk) → Sort.breakPatterns d a b = dk from fun dk r e => by
    unfold Sort.breakPatterns
    simp only [hn, hm, hp]
    rw [if_pos (by omega)]
    exact congrArg Prod.snd e)
  have H0 := Lib.hid (show brk d a n p 0 = (UInt64.ofNat n, d) from rfl)
  have HM := Lib.hid hM
  have hup : u = p + 1 := by omega
  have HUP := Lib.hid hup
  have hnN : n ≤ N := by omega
  clear hN h hn hm hp hu hM hbx hpw hpu hup hpn
  go_enter Tryd.func81, Tryd.ntmps81
  go_wp2_with fail
  refine (HPW.out _).mono ?_
  rintro e w1 ⟨rfl, hw1⟩
  have hb1 : BoxR enc B w0 blk d c (.int .u64 n) w1 := by rw [hw1]; exact HBX.out
  have HB1 := Lib.hid hb1
  clear hw1 hb1
  go_wp2
  go_loopw [11, 12] (fun v11 _ wr => ∃ (x t r : Nat) (dk : Array α), v11 = .int .i64 (x : Nat) ∧ Hid (p + t = x) ∧ x ≤ p + 3 ∧ p ≤ x ∧ r < 18446744073709551616 ∧ dk.size = N ∧ Hid (brk d a n p t = (UInt64.ofNat r, dk)) ∧ BoxR enc B w0 blk dk c (.int .u64 (r : Nat)) wr) (fun v11 _ _ => (p + 3 - RowKit.intOf v11).toNat)
  case atStart => exact ⟨p, 0, n, d, by go_num, rfl, by omega, by omega, by omega, HN.out, H0, HB1.out⟩
  case round =>
    obtain ⟨x, t, r, dk, rfl, HX, hx3, hxp, hr, hsk, HBR, hbox⟩ := hrel
    have HSK := Lib.hid hsk; have HBXX := Lib.hid hbox
    have hpn := HF.out.hpn
    by_cases hlt : x < p + 3
    · have hltz : (x : Int) ≤ (u : Int) + 1 := by have := HUP.out; omega
      obtain ⟨X, hX⟩ : ∃ X, Sort.xorNextN r = X := ⟨_, rfl⟩
      obtain ⟨O, hO⟩ : ∃ O, X &&& (M - 1) = O := ⟨_, rfl⟩
      obtain ⟨hand, hOM⟩ := brk_round HF.out hr hX hO
      have wO := wrapN (n := O) (by omega)
      have hxN : x < N := by omega
      have hnx := rnd_next c r hr _ hbox.cell hbox.frz
      rw [hX] at hnx
      have hXl : X < 18446744073709551616 := by rw [← hX]; exact Sort.xorNextN_lt _ hr
      have HNX := Lib.hid hnx; have HXe := Lib.hid hX; have HR := Lib.hid hr; have HO := Lib.hid hO; have HXL := Lib.hid hXl
      clear hbox hsk hX hnx hr hO hXl
      by_cases hge : n ≤ O
      · have hgez : (n : Int) ≤ (O : Int) := by omega
        obtain ⟨o, ho⟩ : ∃ o, O - n = o := ⟨_, rfl⟩
        have hoz : (O : Int) - (n : Int) = (o : Int) := by omega
        obtain ⟨q, hq⟩ : ∃ q, a + o = q := ⟨_, rfl⟩
        have hqz : (a : Int) + (o : Int) = (q : Int) := by omega
        have wq := wrapN (n := q) (by omega)
        have wo := wrapN (n := o) (by omega)
        have hqN : q < N := by omega
        have HST := Lib.hid (brk_next HM.out HBR.out HR.out HX.out HXe.out HO.out (by rw [if_pos hge]; exact ho) hq)
        clear ho hq
        go_wp2_with fail
        refine HNX.out.mono ?_
        rintro e w2 ⟨rfl, hw2⟩
        have hB2 : BoxR enc B w0 blk dk c (.int .u64 X) w2 := by rw [hw2]; exact (HBXX.out.put _).drewN 3
        have HB2 := Lib.hid hB2
        obtain ⟨y0, hy0⟩ : ∃ y, enc dk[x]! = y := ⟨_, rfl⟩
        obtain ⟨y1, hy1⟩ : ∃ y, enc dk[q]! = y := ⟨_, rfl⟩
        obtain ⟨d1, f1, i1⟩ := hB2.st.cells HSK.out hxN hy0
        obtain ⟨d2, f2, i2⟩ := hB2.st.cells HSK.out hqN hy1
        obtain ⟨uu, d3⟩ := hB2.st.two (i := x) (j := q) (by rw [HSK.out]; omega) (by rw [HSK.out]; omega) (.string y1)
        have HY0 := Lib.hid hy0; have HY1 := Lib.hid hy1
        clear hw2 hB2 hy0 hy1
        go_wp2_with fail
        go_region
        all_goals go_wp2
        go_roundw
        case rel => exact ⟨x + 1, t + 1, X, Sort.swp dk x q, by go_num, by have := HX.out; show _ = _; omega, by omega, by omega, HXL.out, by rw [Sort.size_swp]; exact HSK.out, HST, HB2.out.swapN HSK.out hxN hqN HY0.out HY1.out⟩
        case measure => simp [RowKit.intOf] <;> omega
      · have hgez : ¬ (n : Int) ≤ (O : Int) := by omega
        obtain ⟨q, hq⟩ : ∃ q, a + O = q := ⟨_, rfl⟩
        have hqz : (a : Int) + (O : Int) = (q : Int) := by omega
        have wq := wrapN (n := q) (by omega)
        have hqN : q < N := by omega
        have HST := Lib.hid (brk_next HM.out HBR.out HR.out HX.out HXe.out HO.out (by rw [if_neg hge]) hq)
        clear hq
        go_wp2_with fail
        refine HNX.out.mono ?_
        rintro e w2 ⟨rfl, hw2⟩
        have hB2 : BoxR enc B w0 blk dk c (.int .u64 X) w2 := by rw [hw2]; exact (HBXX.out.put _).drewN 3
        have HB2 := Lib.hid hB2
        obtain ⟨y0, hy0⟩ : ∃ y, enc dk[x]! = y := ⟨_, rfl⟩
        obtain ⟨y1, hy1⟩ : ∃ y, enc dk[q]! = y := ⟨_, rfl⟩
        obtain ⟨d1, f1, i1⟩ := hB2.st.cells HSK.out hxN hy0
        obtain ⟨d2, f2, i2⟩ := hB2.st.cells HSK.out hqN hy1
        obtain ⟨uu, d3⟩ := hB2.st.two (i := x) (j := q) (by rw [HSK.out]; omega) (by rw [HSK.out]; omega) (.string y1)
        have HY0 := Lib.hid hy0; have HY1 := Lib.hid hy1
        clear hw2 hB2 hy0 hy1
        go_wp2_with fail
        go_region
        all_goals go_wp2
        go_roundw
        case rel => exact ⟨x + 1, t + 1, X, Sort.swp dk x q, by go_num, by have := HX.out; show _ = _; omega, by omega, by omega, HXL.out, by rw [Sort.size_swp]; exact HSK.out, HST, HB2.out.swapN HSK.out hxN hqN HY0.out HY1.out⟩
        case measure => simp [RowKit.intOf] <;> omega
    · have hltz : ¬ (x : Int) ≤ (u : Int) + 1 := by have := HUP.out; omega
      have hx : x = p + 3 := by omega
      have ht : t = 3 := by have := HX.out; omega
      have HE := Lib.hid (HBP.out dk r (by have := HBR.out; rw [ht] at this; exact this))
      clear hbox hx ht hsk
      go_wp2
      go_end0
      exact ⟨rfl, by rw [HE.out]; exact HBXX.out.st⟩
end
end Go.Proofs.YtgkpoopiamicnaaDoor
