/-
  CollatePieces of layer 39, walked. Conditions: the cell of the library's MaxLen holds some int; arguments of the reach.
-/
import Derived.Test.YtcdpadggjkobjaaGreatDoorWritten
namespace Go.Proofs.YtcdpadggjkobjaaGreatDoor
open Go.RowKit Go.Lib

theorem parse_step {gs : List (List ByteArray)} {r : ByteArray} {es : List (ByteArray × Int)} {i : Nat} (h : parse gs r = some (es.drop i)) (hi : i < es.length) :
    parse gs (dropB r es[i].1.size) = some (es.drop (i + 1)) ∧ es[i].1 ∈ gs.flatten ∧ bl es[i].1 <+: bl r ∧ (∀ z ∈ gs.flatten, bl z <+: bl r → z.size ≤ es[i].1.size) ∧ es[i].1.size ≤ r.size := by
  have hd : es.drop i = es[i] :: es.drop (i + 1) := List.drop_eq_getElem_cons hi
  by_cases h0 : r.size = 0
  · rw [parse_nil gs h0, hd] at h; injection h with h; cases h
  · by_cases h1 : (longest gs r).2 < 0
    · rw [parse_none gs (by omega) h1] at h; cases h
    · rw [parse_cons gs (by omega) h1, hd, Option.map_eq_some_iff] at h
      obtain ⟨es', h2, h3⟩ := h
      injection h3 with h3 h4
      subst h4
      rw [← h3]
      have h5 := longest_pos h1
      refine ⟨h2, ?_, ?_, fun z hz hp => ?_, h5.2⟩
      · rcases longest_sound gs r with h' | ⟨e, he, h', _, _⟩
        · rw [h'] at h1; exact absurd (by decide) h1
        · rw [h', ← ents_fst]; exact List.mem_map_of_mem he
      · rcases longest_sound gs r with h' | ⟨e, he, h', _, hp⟩
        · rw [h'] at h1; exact absurd (by decide) h1
        · rw [h']; exact hp
      · rw [← ents_fst] at hz
        obtain ⟨e, he, rfl⟩ := List.mem_map.1 hz
        exact longest_max gs r e he hp
theorem parse_end {gs : List (List ByteArray)} {r : ByteArray} (h : parse gs r = some []) : r = ⟨#[]⟩ := by
  by_cases h0 : r.size = 0
  · exact bl_inj (List.eq_nil_of_length_eq_zero (by rw [bl_len]; exact h0))
  · by_cases h1 : (longest gs r).2 < 0
    · rw [parse_none gs (by omega) h1] at h; cases h
    · rw [parse_cons gs (by omega) h1, Option.map_eq_some_iff] at h
      obtain ⟨es', h2, h3⟩ := h
      cases h3
theorem readRes_some {gs : List (List ByteArray)} {s : ByteArray} {es : List (ByteArray × Int)} (h : parse gs s = some es) (hs : s.size ≤ 65536) : readRes gs s = (0, es) := by
  unfold readRes; rw [if_neg (by omega), h]
theorem readRes_none {gs : List (List ByteArray)} {s : ByteArray} (h : parse gs s = none) (hs : s.size ≤ 65536) : readRes gs s = (10, []) := by
  unfold readRes; rw [if_neg (by omega), h]
/-- A slice of the call's own. -/
def OwnL (w : World) (B : Nat) (A : Option Addr) (n c : Nat) (xs : List ByteArray) : Prop := w.ownsRow B 9 1 (.slice A n c) n (strs xs)
theorem OwnL.len {w : World} {B n c : Nat} {A : Option Addr} {xs : List ByteArray} (h : OwnL w B A n c xs) : xs.length = n := by
  have := h.1; simpa using this
theorem OwnL.below {w w' : World} {B n c : Nat} {A : Option Addr} {xs : List ByteArray} (h : OwnL w B A n c xs) (hb : Below w.heap.size w w') : OwnL w' B A n c xs := own_below h hb
theorem SplitPost.own {w w' : World} {r : Res} {e : Ending} (h : SplitPost w r e w') :
    ∃ A n c, e = .returned (.tuple #[.slice A n c, .int .i64 r.1]) ∧ OwnL w' w.heap.size A n c (letS r.2) ∧ n ≤ c ∧ c ≤ maxLen ∧ Below w.heap.size w w' ∧ n = r.2.length := by
  obtain ⟨v, rfl, ho, hb⟩ := h
  obtain ⟨A, c, rfl, h1, h2⟩ := ownsRow_form ho
  exact ⟨A, _, c, rfl, ho, h1, h2, hb, rfl⟩
theorem GivesS.own {w w' : World} {xs : List ByteArray} {e : Ending} (h : GivesS w xs e w') :
    ∃ A n c, e = .returned (.slice A n c) ∧ OwnL w' w.heap.size A n c xs ∧ n ≤ c ∧ c ≤ maxLen ∧ Below w.heap.size w w' ∧ n = xs.length := by
  obtain ⟨v, rfl, ho, hb⟩ := h
  obtain ⟨A, c, rfl, h1, h2⟩ := ownsRow_form ho
  exact ⟨A, _, c, rfl, ho, h1, h2, hb, rfl⟩
theorem hasPrefix_iff (s x : ByteArray) : Lib.hasPrefix s.data.toList x.data.toList = true ↔ bl x <+: bl s := by
  unfold Lib.hasPrefix; exact List.isPrefixOf_iff_prefix
end Go.Proofs.YtcdpadggjkobjaaGreatDoor
