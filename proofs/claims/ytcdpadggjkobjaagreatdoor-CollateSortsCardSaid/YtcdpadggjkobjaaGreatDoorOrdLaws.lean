/-
  Plain facts of layer 39: the order is one; the letters of a beginning of a text at one of its letters. Conditions: none.
-/
import Derived.Test.YtcdpadggjkobjaaGreatDoorPieces
namespace Go.Proofs.YtcdpadggjkobjaaGreatDoor
open Go.RowKit Go.Lib

theorem cmpI_anti (a b : Int) : cmpI a b = - cmpI b a := by unfold cmpI; split <;> split <;> omega
theorem cmpI_range (a b : Int) : cmpI a b = -1 ∨ cmpI a b = 0 ∨ cmpI a b = 1 := by unfold cmpI; split <;> (try split) <;> simp
theorem cmpL_range (a b : List Int) : cmpL a b = -1 ∨ cmpL a b = 0 ∨ cmpL a b = 1 := by
  induction a generalizing b with
  | nil => cases b <;> simp [cmpL]
  | cons x a ih =>
    cases b with
    | nil => simp [cmpL]
    | cons y b =>
      rw [cmpL]
      split
      · exact ih b
      · exact cmpI_range x y
theorem cmpL_anti (a b : List Int) : cmpL a b = - cmpL b a := by
  induction a generalizing b with
  | nil => cases b <;> simp [cmpL]
  | cons x a ih =>
    cases b with
    | nil => simp [cmpL]
    | cons y b =>
      rw [cmpL, cmpL, cmpI_anti x y]
      by_cases h : cmpI y x = 0
      · rw [if_pos (by omega), if_pos h]; exact ih b
      · rw [if_neg (by omega), if_neg h]
theorem cmpI_le (a b : Int) : cmpI a b ≤ 0 ↔ a ≤ b := by unfold cmpI; split <;> (try split) <;> omega
theorem cmpI_lt (a b : Int) : cmpI a b < 0 ↔ a < b := by unfold cmpI; split <;> (try split) <;> omega
theorem cmpL_trans (a b c : List Int) (h1 : cmpL a b ≤ 0) (h2 : cmpL b c ≤ 0) : cmpL a c ≤ 0 ∧ (cmpL a b < 0 ∨ cmpL b c < 0 → cmpL a c < 0) := by
  induction a generalizing b c with
  | nil =>
    cases b with
    | nil =>
      cases c with
      | nil => simp [cmpL]
      | cons z c => simp [cmpL]
    | cons y b =>
      cases c with
      | nil => simp [cmpL] at h2
      | cons z c => simp [cmpL]
  | cons x a ih =>
    cases b with
    | nil => simp [cmpL] at h1
    | cons y b =>
      cases c with
      | nil => simp [cmpL] at h2
      | cons z c =>
        simp only [cmpL] at h1 h2 ⊢
        have hxy := cmpI_le x y; have hyz := cmpI_le y z; have hxz := cmpI_le x z
        have lxy := cmpI_lt x y; have lyz := cmpI_lt y z; have lxz := cmpI_lt x z
        by_cases e1 : cmpI x y = 0
        · have := cmpI_zero e1
          subst this
          by_cases e2 : cmpI x z = 0
          · rw [if_pos e1] at h1 ⊢; rw [if_pos e2] at h2 ⊢
            rw [if_pos e2]
            exact ih b c h1 h2
          · rw [if_pos e1] at h1 ⊢; rw [if_neg e2] at h2 ⊢
            rw [if_neg e2]
            exact ⟨h2, fun _ => by omega⟩
        · rw [if_neg e1] at h1 ⊢
          by_cases e2 : cmpI y z = 0
          · have := cmpI_zero e2
            subst this
            rw [if_neg e1]
            exact ⟨h1, fun _ => by omega⟩
          · rw [if_neg e2] at h2 ⊢
            have h3 : x < y := by omega
            have h4 : y < z := by omega
            have h5 : cmpI x z < 0 := by omega
            rw [if_neg (by omega)]
            exact ⟨by omega, fun _ => h5⟩
/-- Bytes as numbers: the same order. -/
theorem cmpB_L (a b : List UInt8) : Lib.compareBytes a b = cmpL (a.map fun c => (c.toNat : Int)) (b.map fun c => (c.toNat : Int)) := by
  induction a generalizing b with
  | nil => cases b <;> simp [cmpL, Lib.compareBytes]
  | cons x a ih =>
    cases b with
    | nil => simp [cmpL, Lib.compareBytes]
    | cons y b =>
      simp only [List.map_cons, cmpL, Lib.compareBytes, ih b]
      have h1 : x < y ↔ x.toNat < y.toNat := UInt8.lt_iff_toNat_lt
      have h2 : y < x ↔ y.toNat < x.toNat := UInt8.lt_iff_toNat_lt
      by_cases e1 : x.toNat < y.toNat
      · have hc : cmpI (x.toNat : Int) (y.toNat : Int) = -1 := by unfold cmpI; rw [if_pos (show (x.toNat : Int) < y.toNat by omega)]
        rw [if_pos (h1.2 e1), hc, if_neg (by decide)]
      · by_cases e2 : y.toNat < x.toNat
        · have hc : cmpI (x.toNat : Int) (y.toNat : Int) = 1 := by unfold cmpI; rw [if_neg (show ¬ (x.toNat : Int) < y.toNat by omega), if_pos (show (y.toNat : Int) < x.toNat by omega)]
          rw [if_neg (fun h => e1 (h1.1 h)), if_pos (h2.2 e2), hc, if_neg (by decide)]
        · have hc : cmpI (x.toNat : Int) (y.toNat : Int) = 0 := by unfold cmpI; rw [if_neg (show ¬ (x.toNat : Int) < y.toNat by omega), if_neg (show ¬ (y.toNat : Int) < x.toNat by omega)]
          rw [if_neg (fun h => e1 (h1.1 h)), if_neg (fun h => e2 (h2.1 h)), hc, if_pos rfl]
abbrev bsI (s : ByteArray) : List Int := (bl s).map fun c => (c.toNat : Int)
theorem beforeV_L (xs ys : List Int) (s t : ByteArray) : beforeV xs ys s t = if cmpL xs ys = 0 then cmpL (bsI s) (bsI t) else cmpL xs ys := by
  rw [beforeV_eq, cmpB_L]
theorem beforeV_range (xs ys : List Int) (s t : ByteArray) : beforeV xs ys s t = -1 ∨ beforeV xs ys s t = 0 ∨ beforeV xs ys s t = 1 := by
  rw [beforeV_L]; split
  · exact cmpL_range _ _
  · exact cmpL_range _ _
theorem beforeV_anti (xs ys : List Int) (s t : ByteArray) : beforeV xs ys s t = - beforeV ys xs t s := by
  rw [beforeV_L, beforeV_L]
  have h1 := cmpL_anti xs ys
  have h2 := cmpL_anti (bsI s) (bsI t)
  by_cases e : cmpL xs ys = 0
  · rw [if_pos e, if_pos (by omega)]; exact h2
  · rw [if_neg e, if_neg (by omega)]; exact h1
theorem beforeV_trans (xs ys zs : List Int) (s t u : ByteArray) (h1 : beforeV xs ys s t ≤ 0) (h2 : beforeV ys zs t u ≤ 0) : beforeV xs zs s u ≤ 0 := by
  rw [beforeV_L] at h1 h2 ⊢
  have a1 := cmpL_range xs ys; have a2 := cmpL_range ys zs; have a3 := cmpL_range xs zs
  by_cases e1 : cmpL xs ys = 0
  · by_cases e2 : cmpL ys zs = 0
    · rw [if_pos e1] at h1; rw [if_pos e2] at h2
      have t1 := cmpL_trans xs ys zs (by omega) (by omega)
      have t2 := (cmpL_trans _ _ _ h1 h2).1
      split
      · exact t2
      · exact t1.1
    · rw [if_neg e2] at h2
      have t1 := cmpL_trans xs ys zs (by omega) (by omega)
      have : cmpL xs zs < 0 := t1.2 (.inr (by omega))
      rw [if_neg (by omega)]; omega
  · rw [if_neg e1] at h1
    by_cases e2 : cmpL ys zs = 0
    · have t1 := cmpL_trans xs ys zs (by omega) (by omega)
      have : cmpL xs zs < 0 := t1.2 (.inl (by omega))
      rw [if_neg (by omega)]; omega
    · rw [if_neg e2] at h2
      have t1 := cmpL_trans xs ys zs (by omega) (by omega)
      have : cmpL xs zs < 0 := t1.2 (.inl (by omega))
      rw [if_neg (by omega)]; omega
theorem beforeV_self (xs : List Int) (s : ByteArray) : beforeV xs xs s s = 0 := by
  rw [beforeV_L, if_pos ((cmpL_eq _ _).2 rfl)]; exact (cmpL_eq _ _).2 rfl
theorem beforeV_zero {xs ys : List Int} {s t : ByteArray} (h : beforeV xs ys s t = 0) : s = t := by
  rw [beforeV_eq] at h
  split at h
  · exact bl_inj ((cmpB_eq _ _).1 h)
  · exact absurd h (by assumption)
/-- A beginning at a letter. -/
theorem longest_is {gs : List (List ByteArray)} (hG : GoodG gs) {r : ByteArray} {e : ByteArray × Nat} (he : e ∈ ents gs) (hp : bl e.1 <+: bl r) (hm : ∀ z ∈ gs.flatten, bl z <+: bl r → z.size ≤ e.1.size) : longest gs r = (e.1, (e.2 : Int)) := by
  have hpos := (hG.size he).1
  have hmax := longest_max gs r e he hp
  rcases longest_sound gs r with h' | ⟨e', he', h', _, hp'⟩
  · rw [h'] at hmax
    have : (ByteArray.empty).size = 0 := rfl
    simp only at hmax; omega
  · rw [h'] at hmax ⊢
    have h1 : e'.1.size ≤ e.1.size := hm _ (by rw [← ents_fst]; exact List.mem_map_of_mem he') hp'
    have h2 : e'.1 = e.1 := by
      apply bl_inj
      have hl : (bl e'.1).length = (bl e.1).length := by rw [bl_len, bl_len]; simp only at hmax; omega
      exact (List.prefix_of_prefix_length_le hp' hp (by omega)).eq_of_length hl
    have h3 : e' = e := nodup_snd (by rw [ents_fst]; exact hG.nodup) he' he h2
    rw [h3]
def joinE (es : List (ByteArray × Int)) : Bs := (es.map fun e => bl e.1).flatten
theorem parse_head {gs : List (List ByteArray)} {s : ByteArray} {e : ByteArray × Int} {es : List (ByteArray × Int)} (h : parse gs s = some (e :: es)) :
    0 < s.size ∧ ¬ (longest gs s).2 < 0 ∧ longest gs s = e ∧ parse gs (dropB s e.1.size) = some es := by
  by_cases h0 : s.size = 0
  · rw [parse_nil gs h0] at h; cases h
  · by_cases h1 : (longest gs s).2 < 0
    · rw [parse_none gs (by omega) h1] at h; cases h
    · rw [parse_cons gs (by omega) h1, Option.map_eq_some_iff] at h
      obtain ⟨es', h2, h3⟩ := h
      injection h3 with h3 h4
      subst h4
      rw [← h3]
      exact ⟨by omega, h1, rfl, h2⟩
theorem longest_ent {gs : List (List ByteArray)} {s : ByteArray} (h : ¬ (longest gs s).2 < 0) : ∃ e ∈ ents gs, longest gs s = (e.1, (e.2 : Int)) ∧ bl e.1 <+: bl s := by
  rcases longest_sound gs s with h' | ⟨e, he, h', _, hp⟩
  · rw [h'] at h; exact absurd (by decide) h
  · exact ⟨e, he, h', hp⟩
theorem parse_join {gs : List (List ByteArray)} : ∀ {es : List (ByteArray × Int)} {s : ByteArray}, parse gs s = some es → bl s = joinE es := by
  intro es
  induction es with
  | nil => intro s h; rw [parse_end h]; rfl
  | cons e es ih =>
    intro s h
    obtain ⟨_, h1, h2, h3⟩ := parse_head h
    obtain ⟨e', _, h4, hp⟩ := longest_ent h1
    have h5 := ih h3
    rw [bl_dropB] at h5
    rw [← h2, h4] at h5 ⊢
    simp only [joinE, List.map_cons, List.flatten_cons] at h5 ⊢
    rw [← h5, ← bl_len]
    exact (List.prefix_iff_eq_append.1 hp).symm
theorem parse_take {gs : List (List ByteArray)} (hG : GoodG gs) : ∀ {es : List (ByteArray × Int)} {s : ByteArray} (k : Nat), parse gs s = some es → parse gs (mkB (joinE (es.take k))) = some (es.take k) := by
  intro es
  induction es with
  | nil => intro s k _; rw [List.take_nil]; exact parse_nil gs rfl
  | cons e es ih =>
    intro s k h
    cases k with
    | zero => exact parse_nil gs rfl
    | succ k =>
      obtain ⟨hs0, h1, h2, h3⟩ := parse_head h
      obtain ⟨e', he', h4, hp⟩ := longest_ent h1
      have hi := ih k h3
      have hj := parse_join h3
      have hj0 := parse_join h
      rw [bl_dropB] at hj
      rw [List.take_succ_cons]
      have hee : e = (e'.1, (e'.2 : Int)) := by rw [← h2, h4]
      have hs' : bl (mkB (joinE (e :: es.take k))) = bl e'.1 ++ joinE (es.take k) := by
        rw [bl_mkB, hee]; rfl
      have hpre : bl (mkB (joinE (e :: es.take k))) <+: bl s := by
        rw [hs', hj0, hee]
        simp only [joinE, List.map_cons, List.flatten_cons]
        refine (List.prefix_append_right_inj _).2 ?_
        conv => rhs; rw [← List.take_append_drop k es, List.map_append, List.flatten_append]
        exact List.prefix_append _ _
      have hlg : longest gs (mkB (joinE (e :: es.take k))) = (e'.1, (e'.2 : Int)) := by
        refine longest_is hG he' (by rw [hs']; exact List.prefix_append _ _) (fun z hz hzp => ?_)
        rw [← ents_fst] at hz
        obtain ⟨z', hz', rfl⟩ := List.mem_map.1 hz
        have := longest_max gs s z' hz' (hzp.trans hpre)
        rw [h4] at this; exact this
      have hpos := (hG.size he').1
      have hsz : 0 < (mkB (joinE (e :: es.take k))).size := by rw [← bl_len, hs', List.length_append, bl_len]; omega
      rw [parse_cons gs hsz (by rw [hlg]; simp only; omega), hlg]
      have hd : dropB (mkB (joinE (e :: es.take k))) e'.1.size = mkB (joinE (es.take k)) := by
        apply bl_inj
        rw [bl_dropB, hs', ← bl_len, List.drop_left, bl_mkB]
      simp only
      rw [hd, hi, hee]; rfl
theorem cmpL_take (xs : List Int) (k : Nat) (h : k < xs.length) : cmpL (xs.take k) xs = -1 := by
  induction k generalizing xs with
  | zero =>
    cases xs with
    | nil => simp at h
    | cons x xs => simp [cmpL]
  | succ k ih =>
    cases xs with
    | nil => simp at h
    | cons x xs =>
      rw [List.take_succ_cons, cmpL, if_pos (cmpI_self x)]
      exact ih xs (by simpa using h)
end Go.Proofs.YtcdpadggjkobjaaGreatDoor
