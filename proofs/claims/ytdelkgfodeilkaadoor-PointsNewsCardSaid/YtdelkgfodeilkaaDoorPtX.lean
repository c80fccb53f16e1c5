/-
  layer 36: what New calls: Clone of names, Trim; the closures of New. Conditions: at most 100,000 names.
-/
import Derived.Test.YtdelkgfodeilkaaDoorPtNp
import Derived.Test.YtdelkgfodeilkaaDoorPtN
import Derived.Test.YtdelkgfodeilkaaDoorPtA
import Derived.Test.YtdelkgfodeilkaaDoorShelf
import Derived.Test.YtdelkgfodeilkaaDoorShelf4
import Derived.Shelf.Strings.SlTrimAscii
namespace Go.Proofs.YtdelkgfodeilkaaDoor
open Go.RowKit Go.Lib

theorem own_empty1 (w : World) (t : TypeId) : (w.alloc (.cells #[] t)).ownsRow w.heap.size t 1 (.slice (some ⟨w.heap.size, 0, none⟩) 0 0) 0 [] :=
  ⟨rfl, .inr ⟨w.heap.size, 0, #[], rfl, Nat.le_refl _, heap_alloc_new w _, by omega, by omega, by simp, by simp⟩⟩
set_option maxRecDepth 20000 in
set_option maxHeartbeats 1000000 in
theorem cloneS_any (A : Option Addr) (n c : Nat) (xs : List Value) (w : World) (K : Nat) (hr : Reads w K 1 A n xs) (h1 : ∀ u ∈ xs, u.oneCell' = true) (hK : K ≤ w.heap.size) (hn : n ≤ 100000) :
    Calls Tryd.prog 39 #[.slice A n c] w fun e w' => ∃ v, e = .returned v ∧ w'.ownsRow w.heap.size 9 1 v n xs ∧ Below w.heap.size w w' := by
  obtain ⟨i0, hi, hz0, hz1, hz2⟩ := info_parts (show (Tryd.prog.info? 9).map (fun i => (i.zero, i.size, i.bytes)) = some (some (.string ByteArray.empty), 1, 16) by kernel_rfl)
  have hl := hr.1
  have hnil := fun (W : World) (a : Option Addr) (n c : Nat) => Lib.run_eql_slice_nil (P := Tryd.prog) W 22 9 a n c 0 0 Tryd.underlying22
  rcases A with _ | ad
  · have h0 : n = 0 := by
      rcases Nat.eq_zero_or_pos n with h | h
      · exact h
      · obtain ⟨_, h', _⟩ := hr.2 h; cases h'
    subst h0
    obtain rfl : xs = [] := List.eq_nil_of_length_eq_zero (by omega)
    go_enter Tryd.func39, Tryd.ntmps39
    go_wp2
    go_ret
    exact ⟨_, rfl, World.ownsRow_nil _ _ _ _, Below.refl _ _⟩
  · have hown := own_empty1 w 9
    have hr' := (hr.more hK).alloc (Nat.le_refl _) (.cells #[] 9)
    go_enter Tryd.func39, Tryd.ntmps39
    go_wp2_with (at_builtin; refine wpList_append_any _ rfl _ _ 22 rfl w.heap.size 9 i0 (.string ByteArray.empty) 1 16 Tryd.underlying22 hi hz0 hz1 hz2 rfl (by decide) _ _ _ rfl hown w.heap.size _ _ _ xs rfl hr' h1 (by unfold maxLen; omega) (by omega) (by simp) ?_; intro v' w1 hown' hgrow _)
    have hb1 : Below w.heap.size w w1 := ((Below.refl _ w).alloc (Nat.le_refl _) _).grown hgrow (by simp) (fun g hg => (hown.lt g hg).1)
    clear hgrow
    go_ret
    exact ⟨_, rfl, by simpa using hown', hb1⟩
/-- The bytes of names. -/
def lettersB : ByteArray := ⟨#[97, 98, 99, 100, 101, 102, 103, 104, 105, 106, 107, 108, 109, 110, 111, 112, 113, 114, 115, 116, 117, 118, 119, 120, 121, 122, 65, 66, 67, 68, 69, 70, 71, 72, 73, 74, 75, 76, 77, 78, 79, 80, 81, 82, 83, 84, 85, 86, 87, 88, 89, 90, 48, 49, 50, 51, 52, 53, 54, 55, 56, 57, 45]⟩
theorem okByte_mem (c : UInt8) : okByte c = lettersB.data.toList.contains c := by
  have h : ∀ n : Fin 256, okByte (UInt8.ofNat n.val) = lettersB.data.toList.contains (UInt8.ofNat n.val) := by decide +kernel
  have := h ⟨c.toNat, c.toNat_lt⟩
  simpa using this
theorem dropWhile_nil {α : Type} (p : α → Bool) (l : List α) : l.dropWhile p = [] ↔ l.all p = true := by
  induction l with
  | nil => simp
  | cons x l ih =>
    rw [List.dropWhile_cons]
    cases h : p x <;> simp [h, ih]
theorem all_takeWhile {α : Type} (p : α → Bool) (l : List α) : (l.takeWhile p).all p = true := by
  induction l with
  | nil => rfl
  | cons x l ih =>
    rw [List.takeWhile_cons]
    cases h : p x
    · simp
    · simp only [if_true, List.all_cons, h, Bool.true_and]; exact ih
theorem trim_nil (l cs : List UInt8) : Lib.trimS l cs = [] ↔ l.all (fun b => cs.contains b) = true := by
  unfold Lib.trimS Lib.trimRightS Lib.trimLeftS
  rw [dropWhile_nil, List.all_reverse]
  have h3 := List.takeWhile_append_dropWhile (p := fun b => cs.contains b) (l := l.reverse)
  have h4 := all_takeWhile (fun b => cs.contains b) l.reverse
  constructor
  · intro h
    have : (l.reverse).all (fun b => cs.contains b) = true := by rw [← h3, List.all_append, h4, h]; rfl
    rwa [List.all_reverse] at this
  · intro h
    have : (l.reverse).all (fun b => cs.contains b) = true := by rw [List.all_reverse]; exact h
    rw [← h3, List.all_append, h4, Bool.true_and] at this
    exact this
theorem trimN_any (s : ByteArray) (w : World) (hs : s.size ≤ maxLen) : Calls Tryd.prog 41 #[.string s, .string lettersB] w fun e w' => ∃ t : ByteArray, e = .returned (.string t) ∧ (t.data.toList = [] ↔ s.data.toList.all okByte = true) ∧ Below w.heap.size w w' := by
  refine (Any.strings_Trim_laid Tryd.lays160 (by kernel_rfl) s lettersB w (by unfold maxLen at hs; exact hs) (by decide) (ascii_of_all (by decide))).mono ?_
  rintro e w' ⟨rfl, hb⟩
  refine ⟨_, rfl, ?_, hb⟩
  show Lib.trimS s.data.toList lettersB.data.toList = [] ↔ _
  rw [trim_nil]
  have : okByte = fun b => lettersB.data.toList.contains b := by funext b; exact okByte_mem b
  rw [this]
end Go.Proofs.YtdelkgfodeilkaaDoor
