/-
  Lists of rows of k cells each: plain facts. Conditions: none. Of no program.
-/
import Derived.Test.YtohggdfplmlinaaDoorMem
namespace Go.Proofs.YtohggdfplmlinaaDoor
open Go.RowKit

section
variable {α : Type} [Inhabited α]
omit [Inhabited α] in
theorem flatMap_len (f : α → List Value) (k : Nat) (hk : ∀ x, (f x).length = k) (l : List α) : (l.flatMap f).length = l.length * k := by
  induction l with
  | nil => simp
  | cons x l ih => rw [List.flatMap_cons, List.length_append, hk, ih, List.length_cons, Nat.add_mul, Nat.one_mul, Nat.add_comm]
theorem flatMap_get (f : α → List Value) (k : Nat) (hk : ∀ x, (f x).length = k) (l : List α) : ∀ t, t < l.length * k → (l.flatMap f)[t]? = some ((f l[t / k]!)[t % k]!) := by
  induction l with
  | nil => intro t h; simp at h
  | cons x l ih =>
    intro t h
    rw [List.length_cons, Nat.add_mul, Nat.one_mul] at h
    have k0 : 0 < k := by
      rcases Nat.eq_zero_or_pos k with e | e
      · subst e; simp at h
      · exact e
    rw [List.flatMap_cons]
    rcases Nat.lt_or_ge t k with ht | ht
    · rw [List.getElem?_append_left (by rw [hk]; exact ht), Nat.div_eq_of_lt ht, Nat.mod_eq_of_lt ht]
      simp [getElem!_pos, hk, ht]
    · rw [List.getElem?_append_right (by rw [hk]; exact ht), hk, ih (t - k) (by omega)]
      have e1 : t / k = (t - k) / k + 1 := by
        conv => lhs; rw [show t = (t - k) + k by omega]
        rw [Nat.add_div_right _ k0]
      have e2 : t % k = (t - k) % k := by
        conv => lhs; rw [show t = (t - k) + k by omega]
        rw [Nat.add_mod_right]
      rw [e1, e2]
      simp
end
end Go.Proofs.YtohggdfplmlinaaDoor
