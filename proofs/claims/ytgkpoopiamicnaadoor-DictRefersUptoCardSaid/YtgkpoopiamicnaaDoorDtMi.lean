/-
  Layer 40: Missing: the references to articles that are not there, each once, in order. Conditions: a dictionary in memory.
-/
import Derived.Test.YtgkpoopiamicnaaDoorDtVc
import Derived.Test.YtgkpoopiamicnaaDoorZaan
namespace Go.Proofs.YtgkpoopiamicnaaDoor
open Go.RowKit Go.Lib
section
variable {α : Type} [Inhabited α] [DecidableEq α]
theorem compactUpTo_mem (d : Array α) (x : α) : ∀ m, x ∈ Lib.compactUpTo d m ↔ ∃ j, j < m ∧ d[j]! = x
  | 0 => by simp [Lib.compactUpTo]
  | m + 1 => by
    rw [Lib.compactUpTo_succ, List.mem_append, compactUpTo_mem d x m]
    constructor
    · rintro (⟨j, hj, e⟩ | h)
      · exact ⟨j, by omega, e⟩
      · split at h
        · rw [List.mem_singleton] at h; exact ⟨m, by omega, h.symm⟩
        · cases h
    · rintro ⟨j, hj, e⟩
      by_cases hjm : j < m
      · exact .inl ⟨j, hjm, e⟩
      · obtain rfl : j = m := by omega
        by_cases hk : Lib.keeps d j = true
        · right; rw [if_pos hk, List.mem_singleton]; exact e.symm
        · left
          have hj0 : j ≠ 0 := fun h0 => hk (by subst h0; exact Lib.keeps_lt_one d 0 (by omega))
          refine ⟨j - 1, by omega, ?_⟩
          have : d[j]! = d[j - 1]! := Classical.byContradiction fun h => hk (Lib.keeps_pos h)
          rw [← this, e]
theorem compactUpTo_lt (d : Array α) (R : α → α → Prop) (N : Nat) (hR : ∀ i j, i < j → j < N → R d[i]! d[j]!) (hA : ∀ i j, i < N → j < N → R d[i]! d[j]! → R d[j]! d[i]! → d[i]! = d[j]!) : ∀ m, m ≤ N → (Lib.compactUpTo d m).Pairwise fun x y => R x y ∧ x ≠ y
  | 0, _ => by simp [Lib.compactUpTo]
  | m + 1, hm => by
    rw [Lib.compactUpTo_succ, List.pairwise_append]
    refine ⟨compactUpTo_lt d R N hR hA m (by omega), by split <;> simp, fun x hx y hy => ?_⟩
    split at hy
    case isFalse => cases hy
    case isTrue hk =>
      rw [List.mem_singleton] at hy
      subst hy
      obtain ⟨j, hj, rfl⟩ := (compactUpTo_mem d x m).1 hx
      refine ⟨hR j m hj (by omega), fun e => ?_⟩
      have hm0 : 0 < m := by omega
      have hne : d[m]! ≠ d[m - 1]! := fun h => by rw [Lib.keeps_neg hm0 h] at hk; cases hk
      by_cases h1 : j = m - 1
      · exact hne (by rw [← h1, e])
      · have a1 := hR j (m - 1) (by omega) (by omega)
        have a2 := hR (m - 1) m (by omega) (by omega)
        rw [← e] at a2
        exact hne (by rw [← e]; exact hA j (m - 1) (by omega) (by omega) a1 a2)
end
theorem compactS_mem {l : List ByteArray} {s : ByteArray} : s ∈ compactS l ↔ s ∈ l := by
  unfold compactS Lib.compact
  rw [List.mem_map]
  constructor
  · rintro ⟨x, hx, rfl⟩
    obtain ⟨j, hj, rfl⟩ := (compactUpTo_mem _ x _).1 hx
    rw [List.length_map] at hj
    rw [getElem!_pos _ j (by simpa using hj)]
    simp only [List.getElem_toArray, List.getElem_map, mkB_bl]
    exact List.getElem_mem hj
  · intro hs
    obtain ⟨j, hj, rfl⟩ := List.getElem_of_mem hs
    refine ⟨bl l[j], (compactUpTo_mem _ _ _).2 ⟨j, by simpa using hj, ?_⟩, mkB_bl _⟩
    rw [getElem!_pos _ j (by simpa using hj)]
    simp
theorem compactS_sorted {gs : Grps} {l : List ByteArray} (h : LeT gs l) (hk : ∀ s ∈ l, keyOk gs s) : SortedT (ordT gs) (compactS l) := by
  have hget : ∀ j, j < l.length → mkB ((l.map bl).toArray[j]!) = l[j]! := fun j hj => by
    rw [getElem!_pos _ j (by simpa using hj), getElem!_pos l j hj]
    simp [mkB_bl]
  have hbl : ∀ j, j < l.length → (l.map bl).toArray[j]! = bl l[j]! := fun j hj => by
    rw [getElem!_pos _ j (by simpa using hj), getElem!_pos l j hj]
    simp
  have hm : ∀ j, j < l.length → l[j]! ∈ l := fun j hj => by rw [getElem!_pos l j hj]; exact List.getElem_mem hj
  have hp := compactUpTo_lt (l.map bl).toArray (fun x y => ordT gs (mkB x) (mkB y) ≤ 0) l.length (fun i j hij hj => by
    rw [hget i (by omega), hget j hj, getElem!_pos l i (by omega), getElem!_pos l j hj]
    exact (List.pairwise_iff_getElem.1 h) i j (by omega) hj hij) (fun i j hi hj h1 h2 => by
    rw [hget i hi, hget j hj] at h1 h2
    have a := (goodO gs).anti l[i]! l[j]!
    have e := (goodO gs).zero l[i]! l[j]! (hk _ (hm i hi)) (hk _ (hm j hj)) (by omega)
    rw [hbl i hi, hbl j hj, e]) l.length (Nat.le_refl _)
  unfold SortedT compactS
  rw [List.pairwise_map]
  have hlen : (l.map bl).length = l.length := List.length_map _
  unfold Lib.compact
  rw [hlen]
  have hmem : ∀ x ∈ Lib.compactUpTo (l.map bl).toArray l.length, keyOk gs (mkB x) := fun x hx => by
    obtain ⟨j, hj, rfl⟩ := (compactUpTo_mem _ x _).1 hx
    rw [hget j hj]; exact hk _ (hm j hj)
  refine List.Pairwise.imp_of_mem ?_ hp
  intro x y hx hy ⟨h1, h2⟩
  have hne : ordT gs (mkB x) (mkB y) ≠ 0 := fun e => h2 (by
    have := (goodO gs).zero _ _ (hmem x hx) (hmem y hy) e
    exact congrArg bl this)
  omega
section
variable {w W W' : World} {B : Nat} {v : Value} {gs : Grps} {L : List Art}
theorem seeOf_key (hg : GoodD gs L) {s t : ByteArray} (h : t ∈ seeOf L s) : keyOk gs t := by
  unfold seeOf artOf at h
  cases e : getA L s with
  | none => rw [e] at h; cases h
  | some x =>
    rw [e] at h
    have := List.all_eq_true.1 (hg.arts x (getA_some e).1).see.2.1 t h
    exact (headB_iff.1 this).2.2
theorem missAll_key (hg : GoodD gs L) {l : List ByteArray} {t : ByteArray} (h : t ∈ missAll L l) : keyOk gs t := by
  unfold missAll missOf at h
  obtain ⟨s, -, h2⟩ := List.mem_flatMap.1 h
  exact seeOf_key hg (List.mem_filter.1 h2).1
theorem missAll_len (hg : GoodD gs L) : ∀ l : List ByteArray, (missAll L l).length ≤ 16 * l.length
  | [] => Nat.le_refl _
  | s :: l => by
    have h1 := missAll_len hg l
    have h2 := missOf_len L s
    have h3 := seeOf_len hg s
    unfold missAll at *
    rw [List.flatMap_cons, List.length_append, List.length_cons]
    omega
def MissIn (w : World) (gs : Grps) (L : List Art) (e : Ending) (w' : World) : Prop := ∃ v m, e = .returned v ∧ TxF w' (NewS w w') m v ∧ (∀ s, s ∈ m ↔ s ∈ missAll L (headsL L)) ∧ SortedT (ordT gs) m ∧ Below w.heap.size w w'
theorem missing_in (h : DictIn w B v gs L) : Calls Tryd.prog 21 #[v] w (MissIn w gs L) := by
  obtain ⟨a, g, mb, hv, S, f, rfl, h1, h2⟩ := h
  have hlen : (missAll L (headsL L)).length ≤ 1000000 := by
    have a1 := missAll_len h2 (headsL L)
    have a2 := h2.len
    rw [headsL_len] at a1
    omega
  refine (missing_any h1 h2 (fun l => l.length ≤ 1000000 ∧ ∀ s ∈ l, keyOk gs s) (SortR gs) (fun l hp => ⟨by rw [hp.length_eq]; exact hlen, fun s hs => missAll_key h2 (hp.mem_iff.1 hs)⟩) (sortsM_all h1)).mono ?_
  rintro e w1 ⟨v, l, l', rfl, hp, ⟨hp2, hs⟩, htx, hb⟩
  exact ⟨v, compactS l', rfl, htx, fun s => by rw [compactS_mem, hp2.mem_iff, hp.mem_iff], compactS_sorted hs fun s hs => missAll_key h2 (hp.mem_iff.1 (hp2.mem_iff.1 hs)), hb⟩
end
end Go.Proofs.YtgkpoopiamicnaaDoor
