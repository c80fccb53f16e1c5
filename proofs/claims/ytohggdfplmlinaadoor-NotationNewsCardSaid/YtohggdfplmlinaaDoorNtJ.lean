/-
  Layer 4, plainly: words that are written are read again. Conditions: symbols and marks hold no dot.
-/
import Derived.Test.YtohggdfplmlinaaDoorNtH
namespace Go.Proofs.YtohggdfplmlinaaDoor
section
variable {L : List Nam} {ms : List Mk}
theorem isOne_iff {s : Snd} {t : List UInt8} : isOne L ms s t = true ↔ (readR L ms t).e = 0 ∧ (readR L ms t).w = [s] := by
  unfold isOne
  rw [Bool.and_eq_true, decide_eq_true_eq, decide_eq_true_eq]
theorem tryF_one (s : Snd) : ∀ (l : List (List UInt8)) (best : List UInt8), (best = [] ∨ isOne L ms s best = true) → (l.foldl (tryS L ms s) best = [] ∨ isOne L ms s (l.foldl (tryS L ms s) best) = true)
  | [], _, h => h
  | t :: l, best, h => by
    rw [List.foldl_cons]
    refine tryF_one s l _ ?_
    unfold tryS
    split
    · rename_i hc
      rw [Bool.and_eq_true] at hc
      exact .inr hc.2
    · exact h
theorem bestS_one {s : Snd} (h : bestS L ms s ≠ []) : (readR L ms (bestS L ms s)).e = 0 ∧ (readR L ms (bestS L ms s)).w = [s] :=
  isOne_iff.1 ((tryF_one s (cands L ms) [] (.inl rfl)).resolve_left h)
theorem printK_ok (hd : NoDot L ms) : ∀ (rest done : List Snd) (out o : List UInt8), (readR L ms out).e = 0 → (readR L ms out).w = done → (done ++ rest).length ≤ 32 → printK L ms done out rest = some o → (readR L ms o).e = 0 ∧ (readR L ms o).w = done ++ rest
  | [], done, out, o, h1, h2, _, h => by
    injection h with h
    subst h
    rw [List.append_nil]
    exact ⟨h1, h2⟩
  | s :: rest, done, out, o, h1, h2, hl, h => by
    unfold printK at h
    split at h
    · cases h
    · rename_i hb
      obtain ⟨b1, b2⟩ := bestS_one hb
      have hJ : (readR L ms (joinS L ms done out (bestS L ms s) s)).e = 0 ∧ (readR L ms (joinS L ms done out (bestS L ms s) s)).w = done ++ [s] := by
        unfold joinS
        split
        · assumption
        · rename_i hc
          by_cases ho : out = []
          · subst ho
            exfalso
            apply hc
            rw [List.nil_append]
            refine ⟨b1, ?_⟩
            rw [b2, ← h2]; rfl
          · rw [List.append_assoc, List.singleton_append]
            rw [List.length_append, List.length_cons] at hl
            rcases readR_join hd h1 b1 ho hb with ⟨_, h6⟩ | ⟨h5, _⟩
            · rw [h6, h2, b2]; exact ⟨rfl, rfl⟩
            · rw [h2, b2, List.length_singleton] at h5
              omega
      have := printK_ok hd rest (done ++ [s]) _ o hJ.1 hJ.2 (by simpa [List.append_assoc] using hl) h
      rwa [List.append_assoc, List.singleton_append] at this
theorem printR_ok (hd : NoDot L ms) {w : List Snd} {o : List UInt8} (h : printR L ms w = (o, 0)) : (readR L ms o).e = 0 ∧ (readR L ms o).w = w ∧ normalR L ms o = (o, 0) := by
  have hw : wordE w = 0 := by
    unfold printR at h
    split at h
    · assumption
    · injection h with _ h
  have hl : w.length ≤ 32 := by
    unfold wordE at hw
    split at hw
    · cases hw
    · omega
  have hK : printK L ms [] [] w = some o := by
    unfold printR at h
    rw [if_pos hw] at h
    cases hk : printK L ms [] [] w with
    | none => rw [hk] at h; injection h with _ h; cases h
    | some o' => rw [hk] at h; injection h with h _; rw [h]
  obtain ⟨h1, h2⟩ := printK_ok hd w [] [] o rfl rfl (by simpa using hl) hK
  rw [List.nil_append] at h2
  refine ⟨h1, h2, ?_⟩
  unfold normalR
  rw [if_pos h1, h2, h]
theorem printR_err {w : List Snd} {o : List UInt8} {e : Int} (h : printR L ms w = (o, e)) (he : e ≠ 0) : o = [] := by
  unfold printR at h
  split at h
  · split at h
    · injection h with h _; exact h.symm
    · injection h with _ h; exact absurd h.symm he
  · injection h with h _; exact h.symm
theorem consC_dot {p : UInt8 → Bool} {n : Nat} {s : ByteArray} (hp : p 46 = false) (h : consC p n s = true) : (46 : UInt8) ∉ bs s := fun hm => by
  unfold consC at h
  rw [Bool.and_eq_true] at h
  have := List.all_eq_true.1 h.2 _ hm
  rw [hp] at this
  cases this
theorem notE_ok {n : Nat} : ∀ (ms pre : List Mk), notE n pre ms = 0 → ∀ m ∈ ms, okMark m.text = true
  | [], _, _, _, h => by cases h
  | x :: ms, pre, h, m, hm => by
    unfold notE at h
    split at h
    · rename_i hx
      rcases List.mem_cons.1 hm with rfl | hm
      · cases hk : okMark m.text with
        | true => rfl
        | false =>
          unfold markE at hx
          rw [hk] at hx
          cases hx
      · exact notE_ok ms _ h m hm
    · rename_i hx
      exact absurd h hx
theorem noDot_of {n : Nat} (hL : ∀ x ∈ L, okSym x.1 = true) (h : notK n ms = 0) : NoDot L ms := by
  refine ⟨fun x hx => consC_dot (by decide) (hL x hx), fun m hm => consC_dot (p := signC) (n := 3) (by decide) ?_⟩
  unfold notK at h
  split at h
  · cases h
  · exact notE_ok ms [] h m hm
end
end Go.Proofs.YtohggdfplmlinaaDoor
