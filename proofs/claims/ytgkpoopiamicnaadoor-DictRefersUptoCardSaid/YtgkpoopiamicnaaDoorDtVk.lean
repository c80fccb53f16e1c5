/-
  Layer 40: heads as a type of their own, and what the sort answers on it. Conditions: none.
-/
import Derived.Test.YtgkpoopiamicnaaDoorDtV2
import Derived.Test.YtgkpoopiamicnaaDoorDtVp
namespace Go.Proofs.YtgkpoopiamicnaaDoor
open Go.RowKit Go.Lib
/-! The keys. -/
theorem keyOk_nil (gs : Grps) : keyOk gs ⟨#[]⟩ := rfl
abbrev KeyT (gs : Grps) := {s : ByteArray // keyOk gs s}
instance (gs : Grps) : Inhabited (KeyT gs) := ⟨⟨⟨#[]⟩, keyOk_nil gs⟩⟩
def ordK (gs : Grps) (x y : KeyT gs) : Int := ordT gs x.1 y.1
theorem swoK (gs : Grps) : Sort.SWO (ltC (ordK gs)) where
  irrefl x := by unfold ltC ordK; rw [(goodO gs).self]; rfl
  trans x y z h1 h2 := by
    unfold ltC ordK at *
    rw [decide_eq_true_iff] at *
    exact (goodO gs).lt_trans x.2 y.2 z.2 h1 h2
  ntrans x y z h1 h2 := by
    unfold ltC ordK at *
    rw [decide_eq_false_iff_not] at *
    have a1 := (goodO gs).anti x.1 y.1
    have a2 := (goodO gs).anti y.1 z.1
    have a3 := (goodO gs).anti x.1 z.1
    have := (goodO gs).trans z.1 y.1 x.1 z.2 y.2 x.2 (by omega) (by omega)
    omega
/-- In order. -/
def LeT (gs : Grps) (l : List ByteArray) : Prop := l.Pairwise fun s t => ordT gs s t ≤ 0
def SortR (gs : Grps) (l l' : List ByteArray) : Prop := l'.Perm l ∧ LeT gs l'
theorem lift_keys {gs : Grps} : ∀ {l : List ByteArray}, (∀ s ∈ l, keyOk gs s) → ∃ d : List (KeyT gs), d.map Subtype.val = l
  | [], _ => ⟨[], rfl⟩
  | s :: l, h => by
    obtain ⟨d, hd⟩ := lift_keys (l := l) fun t ht => h t (List.mem_cons_of_mem _ ht)
    exact ⟨⟨s, h s List.mem_cons_self⟩ :: d, by rw [List.map_cons, hd]⟩
theorem SortR.of {gs : Grps} {d d' : List (KeyT gs)} (h1 : Sort.PermIn 0 d.toArray.size d.toArray d'.toArray) (h2 : Sort.SortedIn (ltC (ordK gs)) 0 d.toArray.size d'.toArray) : SortR gs (d.map Subtype.val) (d'.map Subtype.val) := by
  obtain ⟨hs, -, hp⟩ := h1
  have hs' : d'.length = d.length := by simpa using hs
  refine ⟨List.Perm.map _ ?_, ?_⟩
  · have e1 : (d'.toArray.extract 0 d.toArray.size).toList = d' := by simp [← hs']
    have e2 : (d.toArray.extract 0 d.toArray.size).toList = d := by simp
    rw [e1, e2] at hp
    exact hp
  · unfold LeT
    rw [List.pairwise_map, List.pairwise_iff_getElem]
    intro i j hi hj hij
    have h := h2 i j (Nat.zero_le _) hij (by simpa using by omega)
    rw [getElem!_pos d'.toArray j (by simpa using hj), getElem!_pos d'.toArray i (by simpa using hi)] at h
    simp only [List.getElem_toArray] at h
    unfold ltC ordK at h
    rw [decide_eq_false_iff_not] at h
    have a := (goodO gs).anti d'[j].1 d'[i].1
    omega
end Go.Proofs.YtgkpoopiamicnaaDoor
