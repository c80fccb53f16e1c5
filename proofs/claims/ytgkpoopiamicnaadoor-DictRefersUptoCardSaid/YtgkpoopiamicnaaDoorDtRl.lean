/-
  Layer 40: the articles between two texts, plainly. Conditions: none. Of no program.
-/
import Derived.Test.YtgkpoopiamicnaaDoorZaaq
namespace Go.Proofs.YtgkpoopiamicnaaDoor
open Go.RowKit Go.Lib

section
variable {gs : Grps} {L : List Art} {s t : ByteArray}
def rangeE (gs : Grps) (s t : ByteArray) : Int := if (readRes gs s).1 = 0 then (readRes gs t).1 else (readRes gs s).1
def upTo (gs : Grps) (L : List Art) (t : ByteArray) : Nat := placeT gs L t + if thereB L t = true then 1 else 0
def rangeL (gs : Grps) (L : List Art) (s t : ByteArray) : List Art := if rangeE gs s t = 0 then (L.take (upTo gs L t)).drop (placeT gs L s) else []
theorem rangeE_zero : rangeE gs s t = 0 ↔ keyOk gs s ∧ keyOk gs t := by
  unfold rangeE keyOk
  by_cases h : (readRes gs s).1 = 0
  · rw [if_pos h]; exact ⟨fun h2 => ⟨h, h2⟩, fun h2 => h2.2⟩
  · rw [if_neg h]; exact ⟨fun h2 => absurd h2 h, fun h2 => absurd h2.1 h⟩
theorem range_heads (hg : GoodD gs L) (i k : Nat) : (((headsL L).take k).drop i).map (artOf L) = (L.take k).drop i := by
  rw [List.map_drop, List.map_take, heads_arts hg]
theorem read_empty (gs : Grps) : readRes gs ⟨#[]⟩ = (0, []) := by
  unfold readRes
  rw [if_neg (by decide)]
  have hp := parse_some_of (gs := gs) (s := ⟨#[]⟩) (by rw [strm_nil gs rfl]; simp)
  rw [hp, strm_nil gs rfl]
theorem key_empty (gs : Grps) : keyOk gs ⟨#[]⟩ := by unfold keyOk; rw [read_empty]
theorem cmpL_nil (l : List Int) : 0 ≤ cmpL l [] := by cases l <;> simp [cmpL]
theorem place_empty (hg : GoodD gs L) : placeT gs L ⟨#[]⟩ = 0 := by
  unfold placeT
  rw [List.countP_eq_zero]
  intro y hy h
  rw [decide_eq_true_iff, ordT_ok (hg.keys y hy) (key_empty gs), read_empty] at h
  rw [beforeV_L] at h
  have h1 := cmpL_nil (keyS (readRes gs y).2)
  have h2 := cmpL_nil (bsI y)
  have e1 : keyS ([] : List (ByteArray × Int)) = [] := rfl
  have e2 : bsI ⟨#[]⟩ = [] := rfl
  simp only [e1, e2] at h
  split at h <;> omega
theorem rangeE_empty : rangeE gs ⟨#[]⟩ s = (readRes gs s).1 := by
  unfold rangeE
  rw [if_pos (show (readRes gs ⟨#[]⟩).1 = 0 from key_empty gs)]
theorem range_low (hg : GoodD gs L) (hs : keyOk gs s) : rangeL gs L ⟨#[]⟩ s = L.take (upTo gs L s) := by
  unfold rangeL
  rw [if_pos (rangeE_zero.2 ⟨key_empty gs, hs⟩), place_empty hg, List.drop_zero]
theorem heads_get {i : Nat} (h : i < (headsL L).length) : (headsL L)[i] = (L[i]'(by rw [← headsL_len]; exact h)).head := List.getElem_map ..
theorem there_at (hg : GoodD gs L) (hs : keyOk gs s) (h : thereB L s = true) : ∃ hi : placeT gs L s < L.length, L[placeT gs L s].head = s ∧ artOf L s = L[placeT gs L s] := by
  have hp := place_found hg hs rfl
  rw [h] at hp
  by_cases hk : placeT gs L s < (headsL L).length
  · rw [dif_pos hk, decide_eq_true_iff] at hp
    have e := (goodO gs).zero _ _ (hg.keyAt hk) hs hp
    have hi : placeT gs L s < L.length := by rw [← headsL_len]; exact hk
    rw [heads_get] at e
    refine ⟨hi, e, ?_⟩
    have h2 := artOf_mem hg (List.getElem_mem hi)
    rw [e] at h2
    exact h2
  · rw [dif_neg hk] at hp; cases hp
theorem place_at (hg : GoodD gs L) {i : Nat} (hi : i < L.length) : placeT gs L L[i].head = i := by
  have hl : (headsL L).length = L.length := headsL_len
  rw [← heads_get (by omega)]
  refine countP_at (by omega) (fun k hk hki => decide_eq_true (hg.lt (by omega) hki)) (fun k hk hki => decide_eq_false ?_)
  rcases Nat.eq_or_lt_of_le hki with h | h
  · subst h
    rw [(goodO gs).self]; omega
  · have h1 := hg.lt hk h
    have h2 := (goodO gs).anti (headsL L)[k] ((headsL L)[i]'(by omega))
    omega
theorem there_mem {i : Nat} (hi : i < L.length) : thereB L L[i].head = true := thereB_iff.2 ⟨_, List.getElem_mem hi, rfl⟩
theorem upTo_at (hg : GoodD gs L) {i : Nat} (hi : i < L.length) : upTo gs L L[i].head = i + 1 := by
  unfold upTo
  rw [place_at hg hi, if_pos (there_mem hi)]
theorem upTo_le (hg : GoodD gs L) (hs : keyOk gs s) : upTo gs L s ≤ L.length := by
  unfold upTo
  by_cases h : thereB L s = true
  · obtain ⟨hi, -⟩ := there_at hg hs h
    rw [if_pos h]; omega
  · rw [if_neg h]; exact placeT_le gs L s
theorem range_high (hg : GoodD gs L) (hs : keyOk gs s) {i : Nat} (hi : i + 1 = L.length) : rangeL gs L s (L[i]'(by omega)).head = L.drop (placeT gs L s) := by
  unfold rangeL
  rw [if_pos (rangeE_zero.2 ⟨hs, (hg.arts _ (List.getElem_mem (by omega))).key⟩), upTo_at hg, hi, List.take_length]
theorem rangeE_high (hg : GoodD gs L) (hs : keyOk gs s) {i : Nat} (hi : i < L.length) : rangeE gs s L[i].head = 0 :=
  rangeE_zero.2 ⟨hs, (hg.arts _ (List.getElem_mem hi)).key⟩
end
end Go.Proofs.YtgkpoopiamicnaaDoor
