/-
  Layer 40: slices.SortFunc on an own row of heads, compared by the dictionary's order: the row is a permutation of what it was, in order. Conditions: texts that are keys.
-/
import Derived.Test.YtgkpoopiamicnaaDoorDtVb
import Derived.Test.YtgkpoopiamicnaaDoorDtVk
namespace Go.Proofs.YtgkpoopiamicnaaDoor
open Go.RowKit Go.Lib
section
variable {α : Type} [Inhabited α] {enc : α → ByteArray} {B : Nat} {w0 W W' : World} {blk : Nat} {d : Array α}
set_option maxRecDepth 20000 in
set_option maxHeartbeats 4000000 in
theorem vsortf (cf : α → α → Int) (g : Nat) (hC : CmpM enc cf B w0 g) (hO : Sort.SWO (ltC cf)) (cap N : Nat) (hsz : N ≤ 1000000) (hd : d.size = N) (h : StR enc B w0 blk d W) :
    Calls Tryd.prog 44 #[.slice (some ⟨blk, 0, none⟩) N cap, ordV g] W fun e W' => e = .returned (.tuple #[]) ∧ ∃ lim, StR enc B w0 blk (Sort.pdq (ltC cf) d 0 N lim true true) W' := by
  obtain ⟨lim, hlim⟩ : ∃ x, Lib.bitLen N = x := ⟨_, rfl⟩
  have hll : lim ≤ 1000 := by rw [← hlim]; exact Nat.le_trans (Lib.bitLen_le N 62 (by omega) (by omega)) (by omega)
  have hp := vpdq cf g hC hO cap N hsz (N + 1) 0 N lim d W (by omega) (by omega) (Nat.le_refl _) hd hll (Or.inl rfl) h
  have hl : Calls Tryd.prog 68 #[.int .u64 (N : Int)] W fun e w' => e = .returned (.int .i64 (lim : Nat)) ∧ w' = W := by
    have h := Tryd.bits_Len (N : Int) W (by omega) (by omega)
    rw [Int.toNat_natCast, hlim] at h
    exact h
  have wr : IntKind.u64.wrap (N : Int) = N := by simp [IntKind.wrap, IntKind.bits, IntKind.signed]; omega
  clear h hC hlim
  go_enter Tryd.func44, Tryd.ntmps44
  go_wp2_with fail
  refine hl.mono ?_
  rintro e w1 ⟨rfl, rfl⟩
  go_wp2_with fail
  refine hp.mono ?_
  rintro e w2 ⟨rfl, h2⟩
  have H2 := Lib.hid h2
  clear hp hl h2
  go_wp2
  go_end0
  exact ⟨rfl, _, H2.out⟩
end
section
variable {w : World} {B a g mb : Nat} {hv : Value} {gs : Grps} {S : Nat → Prop} {L : List Art} {f : ByteArray → Option Value}
theorem sortsM_all (h : DictM w B a g mb hv gs S L f) : SortsM w g (fun l => l.length ≤ 1000000 ∧ ∀ s ∈ l, keyOk gs s) (SortR gs) := by
  intro W v l hb ⟨hl, hk⟩ ho
  rcases ho.2 with ⟨rfl, hz⟩ | ⟨gb, cap, cur, rfl, hbase, hgb, r1, r2, r3, r4⟩
  · obtain rfl : l = [] := List.eq_nil_of_length_eq_zero hz
    refine (sortf_one none 0 0 (by omega) _ W).mono ?_
    rintro e w1 ⟨rfl, rfl⟩
    exact ⟨rfl, [], ⟨List.Perm.refl _, List.Pairwise.nil⟩, rfl, ho, hb⟩
  · obtain ⟨d, hd⟩ := lift_keys hk
    have hdl : d.length = l.length := by rw [← hd, List.length_map]
    have hcur : ∀ i (hi : i < d.length), cur[i]? = some (.string d[i].1) := fun i hi => by
      have h1 : (cur.toList.take (l.length * 1))[i]? = (l.map Value.string)[i]? := by rw [r4]
      rw [List.getElem?_take_of_lt (by omega), List.getElem?_map, ← hd, List.getElem?_map, List.getElem?_eq_getElem hi] at h1
      simpa using h1
    have hst : StR (α := KeyT gs) Subtype.val w.heap.size W gb d.toArray W := by
      refine ⟨Below.refl _ _, hbase, (Array.getElem?_eq_some_iff.1 hgb).1, fun i hi => ?_, fun i hi => ?_, fun c2 T e => ⟨c2, e, rfl⟩⟩
      · have hi' : i < d.length := by simpa using hi
        rw [getElem!_pos d.toArray i hi]
        simp only [List.getElem_toArray]
        simp only [World.cell?, hgb]
        simpa using hcur i hi'
      · simp [World.frozen?, hgb]
    have hC : CmpM (α := KeyT gs) Subtype.val (ordK gs) w.heap.size W g := fun W' hW' x y => (dorder_any (h.below (hb.trans hW')) x.1 y.1)
    have hs := vsortf (d := d.toArray) (ordK gs) g hC (swoK gs) cap l.length hl (by simpa using hdl) hst
    refine hs.mono ?_
    rintro e W' ⟨rfl, lim, hst'⟩
    obtain ⟨p1, p2⟩ := Sort.pdq_sorts (ltC (ordK gs)) (swoK gs) d.toArray 0 l.length lim true true (Nat.zero_le _) (by simp [hdl]) (Or.inl rfl)
    obtain ⟨d', hd'⟩ : ∃ d', (Sort.pdq (ltC (ordK gs)) d.toArray 0 l.length lim true true).toList = d' := ⟨_, rfl⟩
    have hda : Sort.pdq (ltC (ordK gs)) d.toArray 0 l.length lim true true = d'.toArray := by rw [← hd']
    rw [hda] at p1 p2 hst'
    have hlz : l.length = d.toArray.size := by simp [hdl]
    have hp1 : Sort.PermIn 0 d.toArray.size d.toArray d'.toArray := by rw [← hlz]; exact p1
    have hR := SortR.of hp1 (by rw [← hlz]; exact p2)
    rw [hd] at hR
    have hl' : d'.length = l.length := by have := p1.1; simpa [hdl] using this
    obtain ⟨cur', e1, e2⟩ := hst'.obj cur _ hgb
    have hn : (d'.map Subtype.val).length = l.length := by rw [List.length_map, hl']
    refine ⟨rfl, d'.map Subtype.val, hR, hn, ⟨by simp, .inr ⟨gb, cap, cur', by rw [hn], hbase, e1, by omega, r2, by rw [e2]; exact r3, ?_⟩⟩, hb.trans hst'.below⟩
    rw [Nat.mul_one]
    refine List.ext_getElem? fun i => ?_
    by_cases hi : i < d'.length
    · rw [List.getElem?_take_of_lt (by rw [List.length_map]; exact hi), List.getElem?_map, List.getElem?_map, List.getElem?_eq_getElem hi]
      have hc := hst'.cell i (by simpa using hi)
      rw [getElem!_pos d'.toArray i (by simpa using hi)] at hc
      simp only [List.getElem_toArray] at hc
      simp only [World.cell?, e1] at hc
      simpa using hc
    · rw [List.getElem?_eq_none (by rw [List.length_take, List.length_map]; omega), List.getElem?_eq_none (by simp; omega)]
end
end Go.Proofs.YtgkpoopiamicnaaDoor
