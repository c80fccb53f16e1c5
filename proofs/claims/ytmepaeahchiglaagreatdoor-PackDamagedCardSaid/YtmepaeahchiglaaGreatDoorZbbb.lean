/-
  layer 43: the bytes of laws are bytes. Conditions: none.
-/
import Derived.Test.YtmepaeahchiglaaGreatDoorZban
import Derived.Test.YtmepaeahchiglaaGreatDoorZbba
import Derived.Test.YtmepaeahchiglaaGreatDoorZbas
import Derived.Test.YtmepaeahchiglaaGreatDoorZbaz
namespace Go.Proofs.YtmepaeahchiglaaGreatDoor
open Go.RowKit Go.Lib

theorem patB_lt : ∀ p : Pt, ∀ b ∈ patB p, b < 256 := by
  have h : ∀ m (p : Pt), ptSize p ≤ m → ∀ b ∈ patB p, b < 256 := by
    intro m
    induction m with
    | zero => intro p hp; have := ptSize_pos p; omega
    | succ m ih =>
      rintro ⟨k, s, neg, lo, hi, l⟩ hp b hb
      rw [ptSize_mk] at hp
      have hl : ∀ b ∈ patsB l, b < 256 := by
        intro b hb
        rw [patsB_flat] at hb
        obtain ⟨q, hq, hb⟩ := List.mem_flatMap.1 hb
        exact ih q (by have := ptSize_mem hq; omega) b hb
      rw [patB_mk] at hb
      rcases List.mem_append.1 hb with hb | hb
      · exact numB_lt _ b hb
      split at hb
      · rcases List.mem_append.1 hb with hb | hb
        · exact sndB_lt _ b hb
        · exact numB_lt _ b hb
      · split at hb
        · rcases List.mem_append.1 hb with hb | hb
          · exact numB_lt _ b hb
          · exact hl b hb
        · split at hb
          · rcases List.mem_append.1 hb with hb | hb
            · exact numB_lt _ b hb
            rcases List.mem_append.1 hb with hb | hb
            · exact numB_lt _ b hb
            · exact hl b hb
          · cases hb
  exact fun p => h _ p (Nat.le_refl _)
theorem outB_lt (x : Ot) : ∀ b ∈ outB x, b < 256 := by
  intro b hb
  unfold outB at hb
  rcases List.mem_append.1 hb with hb | hb
  · exact numB_lt _ b hb
  rcases List.mem_append.1 hb with hb | hb
  · exact numB_lt _ b hb
  rcases List.mem_append.1 hb with hb | hb
  · exact sndB_lt _ b hb
  rcases List.mem_append.1 hb with hb | hb
  · exact numB_lt _ b hb
  · exact numB_lt _ b hb
theorem textB_lt (s : ByteArray) : ∀ b ∈ textB s, b < 256 := by
  intro b hb
  unfold textB at hb
  rcases List.mem_append.1 hb with hb | hb
  · exact numB_lt _ b hb
  · unfold sbytes at hb
    obtain ⟨u, _, rfl⟩ := List.mem_map.1 hb
    exact u.toNat_lt
theorem wordB_lt (ws : List Snd) : ∀ b ∈ wordB ws, b < 256 := by
  intro b hb
  unfold wordB allB at hb
  rcases List.mem_append.1 hb with h | h
  · exact numB_lt _ b h
  · obtain ⟨s, _, hs⟩ := List.mem_flatMap.1 h
    exact sndB_lt s b hs
theorem lawB_lt (l : Lw) : ∀ b ∈ lawB l, b < 256 := by
  intro b hb
  unfold lawB at hb
  rcases List.mem_append.1 hb with hb | hb
  · exact textB_lt _ b hb
  rcases List.mem_append.1 hb with hb | hb
  · exact patB_lt _ b hb
  rcases List.mem_append.1 hb with hb | hb
  · exact patB_lt _ b hb
  rcases List.mem_append.1 hb with hb | hb
  · exact wordB_lt _ b hb
  rcases List.mem_append.1 hb with hb | hb
  · unfold outsB allB at hb
    rcases List.mem_append.1 hb with h | h
    · exact numB_lt _ b h
    · obtain ⟨s, _, hs⟩ := List.mem_flatMap.1 h
      exact outB_lt s b hs
  · exact numB_lt _ b hb
/-- The bytes of a valid law are few. -/
theorem lawB_len {l : Lw} (h : okLaw l) : (lawB l).length ≤ 100000 := by
  obtain ⟨nm, left, right, ifs, outs, mode⟩ := l
  obtain ⟨hnm, ⟨-, hz1⟩, ⟨-, hz2⟩, hm3, hm4, -, -, -⟩ := h
  simp only at hnm hz1 hz2 hm3 hm4
  have e1 : (textB nm).length ≤ 1005 := by unfold textB; rw [List.length_append, sbytes_len]; have := numB_len nm.size; omega
  have e2 := patB_len left
  have e3 := patB_len right
  have e4 := wordB_len ifs
  have e5 : (outsB outs).length ≤ 5 + 30 * outs.length := by
    show (numB outs.length ++ outs.flatMap outB).length ≤ _
    rw [List.length_append]
    have := numB_len outs.length
    have := flatB_len outB_len outs
    omega
  have e6 := numB_len mode.toNat
  unfold lawB
  simp only [List.length_append]
  omega
end Go.Proofs.YtmepaeahchiglaaGreatDoor
namespace Go.Proofs.YtmepaeahchiglaaGreatDoor
open Go.RowKit Go.Lib

theorem consC_size {p : UInt8 → Bool} {m : Nat} {s : ByteArray} (h : consC p m s = true) : s.size ≤ m := by
  unfold consC at h
  simp only [Bool.and_eq_true, decide_eq_true_eq] at h
  exact h.1.2
theorem newE_small {fs : List ByteArray} (h : newE fs = 0) : fs.length ≤ 24 ∧ ∀ s ∈ fs, s.size ≤ 16 := by
  unfold newE at h
  by_cases h1 : 24 < fs.length
  · rw [if_pos h1] at h; cases h
  · rw [if_neg h1] at h
    by_cases h2 : fs.all okFeat = true
    · refine ⟨by omega, fun s hs => ?_⟩
      have := List.all_eq_true.1 h2 s hs
      unfold okFeat at this
      rw [Bool.and_eq_true] at this
      exact consC_size this.1
    · rw [if_neg h2] at h; cases h
theorem addE_small {n : Nat} {L : List Nam} {sy : ByteArray} {s : Snd} (h : addE n L sy s = 0) : sy.size ≤ 4 ∧ L.length ≠ 256 := by
  unfold addE at h
  by_cases h1 : okSym sy = true
  · rw [if_pos h1] at h
    by_cases h2 : belongs n s = true
    · rw [if_pos h2] at h
      by_cases h3 : (hasSym L (bs sy) || hasVal L s) = true
      · rw [if_pos h3] at h; cases h
      · rw [if_neg h3] at h
        by_cases h4 : L.length = 256
        · rw [if_pos h4] at h; cases h
        · exact ⟨consC_size h1, h4⟩
    · rw [if_neg h2] at h; cases h
  · rw [if_neg h1] at h; cases h
theorem addsE_small {n : Nat} : ∀ {l L : List Nam}, addsE n L l = 0 → L.length ≤ 256 → (L.length + l.length ≤ 256) ∧ ∀ x ∈ l, x.1.size ≤ 4
  | [], L, _, hL => ⟨by simpa using hL, fun x hx => by cases hx⟩
  | y :: l, L, h, hL => by
    have h' : (if addE n L y.1 y.2 = 0 then addsE n (L ++ [y]) l else addE n L y.1 y.2) = 0 := h
    by_cases h1 : addE n L y.1 y.2 = 0
    · rw [if_pos h1] at h'
      have h2 := addE_small h1
      obtain ⟨h3, h4⟩ := addsE_small h' (by rw [List.length_append]; simp only [List.length_cons, List.length_nil]; omega)
      rw [List.length_append] at h3
      simp only [List.length_cons, List.length_nil] at h3 ⊢
      refine ⟨by omega, fun x hx => ?_⟩
      rcases List.mem_cons.1 hx with rfl | hx
      · exact h2.1
      · exact h4 x hx
    · rw [if_neg h1] at h'; exact absurd h' h1
theorem notE_small {n : Nat} : ∀ {l pre : List Mk}, notE n pre l = 0 → ∀ x ∈ l, x.text.size ≤ 3
  | [], _, _, x, hx => by cases hx
  | y :: l, pre, h, x, hx => by
    have h' : (if markE n pre y = 0 then notE n (pre ++ [y]) l else markE n pre y) = 0 := h
    by_cases h1 : markE n pre y = 0
    · rw [if_pos h1] at h'
      rcases List.mem_cons.1 hx with rfl | hx
      · unfold markE at h1
        by_cases h2 : okMark x.text = true
        · exact consC_size h2
        · rw [if_neg h2] at h1; cases h1
      · exact notE_small h' x hx
    · rw [if_neg h1] at h'; exact absurd h' h1
theorem notK_small {n : Nat} {ms : List Mk} (h : notK n ms = 0) : ms.length ≤ 32 ∧ ∀ x ∈ ms, x.text.size ≤ 3 := by
  unfold notK at h
  by_cases h1 : 32 < ms.length
  · rw [if_pos h1] at h; cases h
  · rw [if_neg h1] at h; exact ⟨by omega, notE_small h⟩
theorem okName_size {s : ByteArray} (h : okName s = true) : s.size ≤ 24 := by
  unfold okName at h
  simp only [Bool.and_eq_true, decide_eq_true_eq] at h
  exact h.1.2
theorem treeE_small {t : List Nd} (h : treeE t = 0) : t.length ≤ 63 ∧ ∀ x ∈ t, -1 ≤ x.1 ∧ x.1 < 63 ∧ x.2.size ≤ 24 := by
  obtain ⟨h1, -, h3⟩ := treeE_nodes h
  refine ⟨h1, fun x hx => ?_⟩
  obtain ⟨i, hi, rfl⟩ := List.getElem_of_mem hx
  have h4 := h3 i hi
  have h5 := ndOk_par h4
  unfold ndOk at h4
  rw [Bool.and_eq_true] at h4
  refine ⟨by omega, by omega, okName_size h4.2⟩
theorem on_small {t : List Nd} {on : List (List Int)} {k : Nat} (h : lensOk t on k = true) {i : Nat} (hi : i < k) (hio : i < on.length) : on[i].length ≤ 64 := by
  unfold lensOk at h
  have h1 := List.all_eq_true.1 h _ (lens_mem t on hi)
  rw [decide_eq_true_eq] at h1
  have h2 : (on[i]?.getD []).length ≤ lenK t on i := by unfold lenK; omega
  rw [List.getElem?_eq_getElem hio, Option.getD_some] at h2
  omega
theorem wordsE_small : ∀ {l : List Fm}, wordsE l = 0 → ∀ f ∈ l, f.w.length ≤ 32
  | [], _, f, hf => by cases hf
  | y :: l, h, f, hf => by
    rw [wordsE_cons] at h
    by_cases h1 : wordE y.w = 0
    · rw [if_pos h1] at h
      rcases List.mem_cons.1 hf with rfl | hf
      · exact wordE_len h1
      · exact wordsE_small h f hf
    · rw [if_neg h1] at h; exact absurd h h1
theorem entsW_small : ∀ {l : List En}, entsW l = 0 → ∀ x ∈ l, ∀ f ∈ x.forms, f.w.length ≤ 32
  | [], _, x, hx => by cases hx
  | y :: l, h, x, hx => by
    have h' : (if wordsE y.forms = 0 then entsW l else wordsE y.forms) = 0 := h
    by_cases h1 : wordsE y.forms = 0
    · rw [if_pos h1] at h'
      rcases List.mem_cons.1 hx with rfl | hx
      · exact wordsE_small h1
      · exact entsW_small h' x hx
    · rw [if_neg h1] at h'; exact absurd h' h1
theorem leafs_len (t : List Nd) : (leafs t).length ≤ t.length := by
  unfold leafs
  exact Nat.le_trans (List.length_filter_le _ _) (by simp)
theorem entsE_small {n : Nat} {es : List En} (h : entsE n es = 0) : ∀ x ∈ es, x.forms.length = n ∧ x.gloss.size ≤ 24 := by
  unfold entsE at h
  by_cases h1 : es.all (entOk n) = true
  · rw [if_pos h1] at h
    by_cases h2 : es.all (fun x => okName x.gloss) = true
    · intro x hx
      have h3 := List.all_eq_true.1 h1 x hx
      unfold entOk at h3
      rw [Bool.and_eq_true, decide_eq_true_eq] at h3
      exact ⟨h3.1, okName_size (List.all_eq_true.1 h2 x hx)⟩
    · rw [if_neg h2] at h; cases h
  · rw [if_neg h1] at h; cases h
theorem attE_small {t : List Nd} {laws : List Lw} {on : List (List Int)} {protos : List Fm} {es : List En} (h : attE t laws on protos es = 0) :
    histE t laws on = 0 ∧ es.length ≤ 256 ∧ protos.length = es.length ∧ entsE (leafs t).length es = 0 ∧ wordsE protos = 0 ∧ entsW es = 0 := by
  rw [attE_eq] at h
  by_cases h1 : histE t laws on = 0
  case neg => rw [if_neg h1] at h; exact absurd h h1
  rw [if_pos h1] at h
  by_cases h2 : 256 < es.length
  · rw [if_pos h2] at h; cases h
  rw [if_neg h2] at h
  by_cases h3 : protos.length = es.length ∧ emptyF protos = true
  case neg => rw [if_neg h3] at h; cases h
  rw [if_pos h3] at h
  by_cases h4 : entsE (leafs t).length es = 0
  case neg => rw [if_neg h4] at h; exact absurd h h4
  rw [if_pos h4] at h
  by_cases h5 : wordsE protos = 0
  case neg => rw [if_neg h5] at h; exact absurd h h5
  rw [if_pos h5] at h
  exact ⟨h1, by omega, h3.1, h4, h5, h⟩
theorem PjOk.of {p : Pj} (h : projE p = 0) (hr : PjRd p) (h32 : ∀ l ∈ p.laws, ∀ x ∈ l.outs, is32 x.clear ∧ ok32 x.set ∧ is32 x.take) : PjOk p := by
  unfold projE at h
  by_cases h1 : toolsE p = 0
  case neg => rw [if_neg h1] at h; exact absurd h h1
  rw [if_pos h1] at h
  unfold toolsE at h1
  by_cases h2 : newE p.feats = 0
  case neg => rw [if_neg h2] at h1; exact absurd h1 h2
  rw [if_pos h2] at h1
  by_cases h3 : addsE p.feats.length [] p.sounds = 0
  case neg => rw [if_neg h3] at h1; exact absurd h1 h3
  rw [if_pos h3] at h1
  obtain ⟨a1, a2⟩ := newE_small h2
  obtain ⟨b1, b2⟩ := addsE_small h3 (by simp)
  obtain ⟨c1, c2⟩ := notK_small h1
  obtain ⟨d1, d2, d3, d4, d5, d6⟩ := attE_small h
  obtain ⟨e1, e2, e3, e4, e5, e6⟩ := histE_parts d1
  obtain ⟨f1, f2⟩ := treeE_small e1
  simp only [List.length_nil] at b1
  have hleaf := leafs_len p.tree
  refine ⟨by omega, by omega, by omega, by omega, by omega, by omega, by omega, by omega, fun x hx => ?_, fun x hx => ?_, fun x hx => ?_, fun x hx => ?_, fun x hx => ?_, fun l hl => ?_, fun x hx => ?_, fun x hx => ?_⟩
  · have := a2 x hx; omega
  · have := b2 x hx; exact ⟨by omega, (hr.o2 x hx).2⟩
  · have := c2 x hx; exact ⟨by omega, (hr.o3 x hx).1, (hr.o3 x hx).2.1⟩
  · have := f2 x hx; exact ⟨by omega, by omega, by omega⟩
  · have := okLaw_of (e3 x hx) (h32 x hx)
    exact ⟨this, lawB_len this⟩
  · obtain ⟨i, hi, rfl⟩ := List.getElem_of_mem hl
    have := on_small e5 hi hi
    refine ⟨by omega, fun x hx => ?_⟩
    have h7 := List.all_eq_true.1 (List.all_eq_true.1 e6 _ hl) x hx
    rw [decide_eq_true_eq] at h7
    exact ⟨h7.1, by omega⟩
  · have := wordsE_small d5 x hx; exact ⟨by omega, hr.o7 x hx⟩
  · have g1 := entsE_small d4 x hx
    have g2 := entsW_small d6 x hx
    exact ⟨by omega, by omega, fun f hf => ⟨by have := g2 f hf; omega, (hr.o8 x hx).2 f hf⟩⟩
end Go.Proofs.YtmepaeahchiglaaGreatDoor
