/-
  Plain facts of layer 39: what the iterator over the letters of a text yields ('strm'). Conditions: none.
-/
import Derived.Test.YtcdpadggjkobjaaGreatDoorSpec
namespace Go.Proofs.YtcdpadggjkobjaaGreatDoor

def strmN (gs : List (List ByteArray)) : Nat → ByteArray → List (ByteArray × Int)
  | 0, _ => []
  | n + 1, s => if s.size = 0 then [] else if (longest gs s).2 < 0 then [(ByteArray.empty, -1)] else longest gs s :: strmN gs n (dropB s (longest gs s).1.size)
/-- The letters, each with its place, that the iterator yields; an empty one with the place -1 where there is none. -/
def strm (gs : List (List ByteArray)) (s : ByteArray) : List (ByteArray × Int) := strmN gs s.size s
theorem strmN_eq (gs : List (List ByteArray)) : ∀ (n m : Nat) (s : ByteArray), s.size ≤ n → s.size ≤ m → strmN gs n s = strmN gs m s := by
  intro n
  induction n with
  | zero =>
    intro m s h _
    cases m with
    | zero => rfl
    | succ m => simp only [strmN]; rw [if_pos (by omega)]
  | succ n ih =>
    intro m s h h'
    cases m with
    | zero => simp only [strmN]; rw [if_pos (by omega)]
    | succ m =>
      simp only [strmN]
      split
      · rfl
      · split
        · rfl
        · rename_i h1
          have := longest_pos h1
          rw [ih m _ (by rw [dropB_size]; omega) (by rw [dropB_size]; omega)]
theorem strm_nil (gs : List (List ByteArray)) {s : ByteArray} (h : s.size = 0) : strm gs s = [] := by
  unfold strm; rw [h]; rfl
theorem strm_cons (gs : List (List ByteArray)) {s : ByteArray} (h : 0 < s.size) (h1 : ¬ (longest gs s).2 < 0) : strm gs s = longest gs s :: strm gs (dropB s (longest gs s).1.size) := by
  unfold strm
  obtain ⟨n, hn⟩ : ∃ n, s.size = n + 1 := ⟨s.size - 1, by omega⟩
  have h2 := longest_pos h1
  rw [hn]; simp only [strmN]
  rw [if_neg (by omega), if_neg h1, strmN_eq gs n (dropB s (longest gs s).1.size).size _ (by rw [dropB_size]; omega) (Nat.le_refl _)]
theorem strm_none (gs : List (List ByteArray)) {s : ByteArray} (h : 0 < s.size) (h1 : (longest gs s).2 < 0) : strm gs s = [(ByteArray.empty, -1)] := by
  unfold strm
  obtain ⟨n, hn⟩ : ∃ n, s.size = n + 1 := ⟨s.size - 1, by omega⟩
  rw [hn]; simp only [strmN]
  rw [if_neg (by omega), if_pos h1]
theorem parse_strm (gs : List (List ByteArray)) : ∀ (n : Nat) (s : ByteArray), s.size ≤ n →
    ((∀ e ∈ strm gs s, ¬ e.2 < 0) → parse gs s = some (strm gs s)) ∧ ((∃ e ∈ strm gs s, e.2 < 0) → parse gs s = none) := by
  intro n
  induction n with
  | zero =>
    intro s h
    rw [strm_nil gs (by omega), parse_nil gs (by omega)]
    exact ⟨fun _ => rfl, fun ⟨e, he, _⟩ => by cases he⟩
  | succ n ih =>
    intro s h
    by_cases h0 : s.size = 0
    · rw [strm_nil gs h0, parse_nil gs h0]
      exact ⟨fun _ => rfl, fun ⟨e, he, _⟩ => by cases he⟩
    · by_cases h1 : (longest gs s).2 < 0
      · rw [strm_none gs (by omega) h1, parse_none gs (by omega) h1]
        exact ⟨fun h => absurd (by decide) (h _ (List.mem_singleton.2 rfl)), fun _ => rfl⟩
      · have h2 := longest_pos h1
        obtain ⟨i1, i2⟩ := ih (dropB s (longest gs s).1.size) (by rw [dropB_size]; omega)
        rw [strm_cons gs (by omega) h1, parse_cons gs (by omega) h1]
        refine ⟨fun h => ?_, fun ⟨e, he, hn⟩ => ?_⟩
        · rw [i1 (fun e he => h e (by simp [he]))]; rfl
        · rcases List.mem_cons.1 he with rfl | he
          · exact absurd hn h1
          · rw [i2 ⟨e, he, hn⟩]; rfl
theorem parse_some_of {gs : List (List ByteArray)} {s : ByteArray} (h : ∀ e ∈ strm gs s, ¬ e.2 < 0) : parse gs s = some (strm gs s) := (parse_strm gs s.size s (Nat.le_refl _)).1 h
theorem parse_none_of {gs : List (List ByteArray)} {s : ByteArray} (h : ∃ e ∈ strm gs s, e.2 < 0) : parse gs s = none := (parse_strm gs s.size s (Nat.le_refl _)).2 h
theorem strm_length (gs : List (List ByteArray)) : ∀ (n : Nat) (s : ByteArray), s.size ≤ n → (strm gs s).length ≤ s.size := by
  intro n
  induction n with
  | zero => intro s h; rw [strm_nil gs (by omega)]; simp
  | succ n ih =>
    intro s h
    by_cases h0 : s.size = 0
    · rw [strm_nil gs h0]; simp
    · by_cases h1 : (longest gs s).2 < 0
      · rw [strm_none gs (by omega) h1]; simp; omega
      · have h2 := longest_pos h1
        have := ih (dropB s (longest gs s).1.size) (by rw [dropB_size]; omega)
        rw [dropB_size] at this
        rw [strm_cons gs (by omega) h1, List.length_cons]; omega
theorem strm_pos (gs : List (List ByteArray)) {s : ByteArray} (h : 0 < s.size) : 0 < (strm gs s).length := by
  by_cases h1 : (longest gs s).2 < 0
  · rw [strm_none gs h h1]; simp
  · rw [strm_cons gs h h1]; simp
end Go.Proofs.YtcdpadggjkobjaaGreatDoor
