/-
  Layer 40: slices.SortFunc's smaller functions on a row of texts, compared by a method. Conditions: indices in the row.
-/
import Derived.Test.YtgkpoopiamicnaaDoorDtV1
namespace Go.Proofs.YtgkpoopiamicnaaDoor
open Go.RowKit Go.Lib
section
variable {α : Type} [Inhabited α] {enc : α → ByteArray} {B : Nat} {w0 W W' : World} {blk : Nat} {d : Array α}
/-- What the comparison answers. -/
def CmpM (enc : α → ByteArray) (cf : α → α → Int) (B : Nat) (w0 : World) (g : Nat) : Prop := ∀ W, Below B w0 W → ∀ x y : α, Calls Tryd.prog 33 #[wptr g, .string (enc x), .string (enc y)] W fun e W' => e = .returned (.int .i64 (cf x y)) ∧ Below W.heap.size W W'
abbrev ordV (g : Nat) : Value := .func (.func 33) #[wptr g] #[]
def ltC (cf : α → α → Int) (x y : α) : Bool := decide (cf x y < 0)
theorem CmpM.in_ {cf : α → α → Int} {g : Nat} (h : CmpM enc cf B w0 g) (p : InS (StR enc B w0 blk d)) (x y : α) : Calls Tryd.prog 33 #[wptr g, .string (enc x), .string (enc y)] p.W fun e W' => e = .returned (.int .i64 (cf x y)) ∧ ∃ q : InS (StR enc B w0 blk d), W' = q.W :=
  Calls.in_ ((h _ p.ok.below x y).mono fun _ _ ⟨e, hb⟩ => ⟨e, p.ok.of_below hb⟩)
theorem reverseLoop_go {i j : Nat} {d : Array α} (h : i < j) : Sort.reverseLoop i j d = Sort.reverseLoop (i + 1) (j - 1) (Sort.swp d i j) := by rw [Sort.reverseLoop, if_pos h]
theorem reverseLoop_end {i j : Nat} {d : Array α} (h : ¬ i < j) : Sort.reverseLoop i j d = d := by rw [Sort.reverseLoop, if_neg h]
set_option maxRecDepth 20000 in
set_option maxHeartbeats 4000000 in
theorem vreverse (k : Value) (cap a b : Nat) (hab : a < b) (hb : b ≤ d.size) (hsz : d.size ≤ 1000000) (h : StR enc B w0 blk d W) :
    Calls Tryd.prog 83 #[.slice (some ⟨blk, 0, none⟩) d.size cap, .int .i64 a, .int .i64 b, k] W fun e W' => e = .returned (.tuple #[]) ∧ StR enc B w0 blk (Sort.reverseRange d a b) W' := by
  have H := Lib.hid h; have HS := Lib.hid hsz
  obtain ⟨N, hN⟩ : ∃ N, d.size = N := ⟨_, rfl⟩
  have HN := Lib.hid hN
  rw [hN] at hb hsz ⊢
  clear h hN
  go_enter Tryd.func83, Tryd.ntmps83
  go_wp2
  go_loopw [8, 9] (fun vi vj wr => ∃ (i j : Nat) (dk : Array α), vi = .int .i64 i ∧ vj = .int .i64 j ∧ dk.size = N ∧ i ≤ j + 1 ∧ j < N ∧ StR enc B w0 blk dk wr ∧ Hid (Sort.reverseLoop i j dk = Sort.reverseRange d a b)) (fun vi vj _ => (RowKit.intOf vj - RowKit.intOf vi + 1).toNat)
  case atStart => exact ⟨a, b - 1, d, by go_num, by go_num, HN.out, by omega, by omega, H.out, rfl⟩
  case round =>
    obtain ⟨i, j, dk, rfl, rfl, hdk, hij, hj, hst, he⟩ := hrel
    have HE := he; have HST := Lib.hid hst; have HDK := Lib.hid hdk
    by_cases hlt : i < j
    · have hltz : (i : Int) < (j : Int) := by omega
      obtain ⟨x, hx⟩ : ∃ x, enc dk[i]! = x := ⟨_, rfl⟩
      obtain ⟨y, hy⟩ : ∃ y, enc dk[j]! = y := ⟨_, rfl⟩
      obtain ⟨c1, f1, i0⟩ := hst.cells hdk (by omega) hx
      obtain ⟨c2, f2, j0⟩ := hst.cells hdk hj hy
      obtain ⟨u, c3⟩ := hst.two (i := i) (j := j) (by omega) (by omega) (.string y)
      have HX := Lib.hid hx; have HY := Lib.hid hy
      clear hst he hx hy
      go_wp2_with fail
      go_region
      all_goals go_wp2
      go_roundw
      case rel => exact ⟨i + 1, j - 1, Sort.swp dk i j, by go_num, by go_num, by rw [Sort.size_swp]; exact HDK.out, by omega, by omega, HST.out.swapN HDK.out (by omega) hj HX.out HY.out, by show _ = _; rw [← HE.out, reverseLoop_go hlt]⟩
      case measure => simp [RowKit.intOf]; omega
    · have hltz : ¬ (i : Int) < (j : Int) := by omega
      go_wp2
      go_end0
      exact ⟨rfl, by rw [← HE.out, reverseLoop_end hlt]; exact HST.out⟩
theorem insOuter_go {lt : α → α → Bool} {a b i : Nat} {d : Array α} (h : i < b) : Sort.insOuter lt a b i d = Sort.insOuter lt a b (i + 1) (Sort.insInner lt a i d) := by rw [Sort.insOuter, if_pos h]
theorem insOuter_end {lt : α → α → Bool} {a b i : Nat} {d : Array α} (h : ¬ i < b) : Sort.insOuter lt a b i d = d := by rw [Sort.insOuter, if_neg h]
theorem insInner_go {lt : α → α → Bool} {a j : Nat} {d : Array α} (h : a < j + 1) (hl : lt d[j + 1]! d[j]! = true) : Sort.insInner lt a (j + 1) d = Sort.insInner lt a j (Sort.swp d (j + 1) j) := by rw [Sort.insInner, if_pos (by simp [h, hl])]
theorem insInner_end {lt : α → α → Bool} {a j : Nat} {d : Array α} (h : ∀ k, j = k + 1 → a < j → lt d[k + 1]! d[k]! = false) : Sort.insInner lt a j d = d := by
  cases j with
  | zero => rfl
  | succ k =>
    rw [Sort.insInner]
    by_cases h1 : a < k + 1
    · rw [if_neg (by simp [h k rfl h1])]
    · rw [if_neg (by simp; omega)]
/-- A region that reads the row and compares. -/
macro "go_in " C:term:max " (" tac:tactic ")" : tactic => `(tactic|
  (refine wp_region_in (C := $C) (by kernel_rfl) (by kernel_rfl) (by assumption) ?_
   have hne : Nonempty (InS $C) := ⟨⟨_, by assumption⟩⟩
   repeat (quiet_step ($tac:tactic))
   refine wpQuiet_nil ?_
   intro _ hw'
   obtain ⟨$(Lean.mkIdent `pq):ident, hw''⟩ := hw'
   subst hw''))
set_option maxRecDepth 20000 in
set_option maxHeartbeats 4000000 in
theorem vinsert (cf : α → α → Int) (g : Nat) (hC : CmpM enc cf B w0 g) (cap a b : Nat) (hab : a ≤ b) (hb : b ≤ d.size) (hsz : d.size ≤ 1000000) (h : StR enc B w0 blk d W) :
    Calls Tryd.prog 79 #[.slice (some ⟨blk, 0, none⟩) d.size cap, .int .i64 a, .int .i64 b, ordV g] W fun e W' => e = .returned (.tuple #[]) ∧ StR enc B w0 blk (Sort.insertionSort (ltC cf) d a b) W' := by
  have H := Lib.hid h; have HC := Lib.hid hC
  obtain ⟨N, hN⟩ : ∃ N, d.size = N := ⟨_, rfl⟩
  have HN := Lib.hid hN
  rw [hN] at hb hsz ⊢
  clear h hN hC
  go_enter Tryd.func79, Tryd.ntmps79
  go_wp2
  go_loopw [8] (fun vi wr => ∃ (i : Nat) (dk : Array α), vi = .int .i64 i ∧ dk.size = N ∧ a + 1 ≤ i ∧ i ≤ b + 1 ∧ StR enc B w0 blk dk wr ∧ Hid (Sort.insOuter (ltC cf) a b i dk = Sort.insertionSort (ltC cf) d a b)) (fun vi _ => (b + 1 - RowKit.intOf vi).toNat)
  case atStart => exact ⟨a + 1, d, by go_num, HN.out, by omega, by omega, H.out, rfl⟩
  case round =>
    obtain ⟨i, dk, rfl, hdk, hai, hib, hst, HE⟩ := hrel
    by_cases hlt : i < b
    · have hltz : (i : Int) < (b : Int) := by omega
      have HST0 := Lib.hid hst; have HDK := Lib.hid hdk
      clear hst hdk
      go_wp2
      go_loopw [9] (fun vj wr2 => ∃ (j : Nat) (dj : Array α), vj = .int .i64 j ∧ dj.size = N ∧ a ≤ j ∧ j ≤ i ∧ StR enc B w0 blk dj wr2 ∧ Hid (Sort.insInner (ltC cf) a j dj = Sort.insInner (ltC cf) a i dk)) (fun vj _ => (RowKit.intOf vj).toNat)
      case atStart => exact ⟨i, dk, by go_num, HDK.out, by omega, by omega, HST0.out, rfl⟩
      case round =>
        obtain ⟨j, dj, rfl, hdj, haj, hji, hst, HI⟩ := hrel
        have HST := Lib.hid hst; have HDJ := Lib.hid hdj
        have hdr := hst.drew
        by_cases hja : a < j
        · obtain ⟨jp, rfl⟩ : ∃ k, j = k + 1 := ⟨j - 1, by omega⟩
          obtain ⟨x, hx⟩ : ∃ x, enc dj[jp + 1]! = x := ⟨_, rfl⟩
          obtain ⟨y, hy⟩ : ∃ y, enc dj[jp]! = y := ⟨_, rfl⟩
          obtain ⟨c, hc⟩ : ∃ c, cf dj[jp + 1]! dj[jp]! = c := ⟨_, rfl⟩
          have hjz : (a : Int) < ((jp : Int) + 1) := by omega
          have l1 : ((jp : Int) + 1) < (N : Int) := by omega
          have l2 : (jp : Int) < (N : Int) := by omega
          have e0 : ((jp : Int) + 1).toNat = jp + 1 := by omega
          have e1 : (0 : Int) ≤ (jp : Int) + 1 := by omega
          have hwp : IntKind.i64.wrap (jp : Int) = (jp : Int) := by rw [IntKind.wrap_i64]; omega
          have c1 : ∀ p : InS (StR enc B w0 blk dj), p.W.cell? ⟨blk, jp + 1, none⟩ = some (.string x) := fun p => (p.ok.cells hdj (by omega) hx).1
          have c2 : ∀ p : InS (StR enc B w0 blk dj), p.W.cell? ⟨blk, jp, none⟩ = some (.string y) := fun p => (p.ok.cells hdj (by omega) hy).1
          have hcall : ∀ p : InS (StR enc B w0 blk dj), Calls Tryd.prog 33 #[wptr g, .string x, .string y] p.W fun e W' => e = .returned (.int .i64 c) ∧ ∃ q : InS (StR enc B w0 blk dj), W' = q.W := fun p => by
            have := HC.out.in_ p dj[jp + 1]! dj[jp]!
            rw [hx, hy, hc] at this
            exact this
          have HX := Lib.hid hx; have HY := Lib.hid hy; have HCC := Lib.hid hc
          clear hst hdj hx hy hc
          by_cases hlv : c < 0
          · go_wp2_with fail
            go_in (StR enc B w0 blk dj) (exact hcall _)
            have hok := Lib.hid pq.ok
            clear c1 c2 hcall hdr
            obtain ⟨d1, f1, -⟩ := hok.out.cells HDJ.out (by omega) HX.out
            obtain ⟨d2, f2, -⟩ := hok.out.cells HDJ.out (by omega) HY.out
            obtain ⟨u, d3⟩ := hok.out.two (i := jp + 1) (j := jp) (by rw [HDJ.out]; omega) (by rw [HDJ.out]; omega) (.string y)
            go_wp2_with fail
            go_region
            all_goals go_wp2
            go_roundw
            case rel => exact ⟨jp, Sort.swp dj (jp + 1) jp, by go_num, by rw [Sort.size_swp]; exact HDJ.out, by omega, by omega, hok.out.swapN HDJ.out (by omega) (by omega) HX.out HY.out, by show _ = _; rw [← HI.out, insInner_go hja (by unfold ltC; rw [HCC.out]; exact decide_eq_true hlv)]⟩
            case measure => simp [RowKit.intOf] <;> omega
          · have hend := fun k (hk : jp + 1 = k + 1) (_ : a < jp + 1) => show ltC cf dj[k + 1]! dj[k]! = false by obtain rfl : jp = k := (by omega); unfold ltC; rw [HCC.out]; exact decide_eq_false hlv
            have HEND := Lib.hid hend
            clear hend
            go_wp2_with fail
            go_in (StR enc B w0 blk dj) (exact hcall _)
            have hok := Lib.hid pq.ok
            clear c1 c2 hcall hdr
            go_wp2
            go_roundw
            case rel => exact ⟨i + 1, dj, by go_num, HDJ.out, by omega, by omega, hok.out, by show _ = _; rw [← HE.out, insOuter_go hlt, ← HI.out, insInner_end HEND.out]⟩
            case measure => simp [RowKit.intOf] <;> omega
        · have hend := fun k (_ : j = k + 1) (h : a < j) => (absurd h hja : ltC cf dj[k + 1]! dj[k]! = false)
          have HEND := Lib.hid hend
          have hje : j = a := by omega
          clear hst hdj hend
          subst hje
          have hok := Lib.hid hdr
          clear hdr
          go_wp2_with fail
          go_region
          all_goals go_wp2
          go_roundw
          case rel => exact ⟨i + 1, dj, by go_num, HDJ.out, by omega, by omega, hok.out, by show _ = _; rw [← HE.out, insOuter_go hlt, ← HI.out, insInner_end HEND.out]⟩
          case measure => simp [RowKit.intOf] <;> omega
    · have hltz : ¬ (i : Int) < (b : Int) := by omega
      have HST := Lib.hid hst
      clear hst
      go_wp2
      go_end0
      exact ⟨rfl, by rw [← HE.out, insOuter_end hlt]; exact HST.out⟩
end
end Go.Proofs.YtgkpoopiamicnaaDoor
