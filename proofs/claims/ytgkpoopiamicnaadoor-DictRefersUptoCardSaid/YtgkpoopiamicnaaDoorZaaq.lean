/-
  Layer 40: a dictionary and the blocks that are its own. Conditions: none.
-/
import Derived.Test.YtgkpoopiamicnaaDoorZaap
namespace Go.Proofs.YtgkpoopiamicnaaDoor
open Go.RowKit Go.Lib

/-- A dictionary whose own blocks are in D; D lies at B or behind it, the alphabet below B. -/
def DictAt (w : World) (B : Nat) (v : Value) (gs : Grps) (L : List Art) (D : Nat → Prop) : Prop :=
  ∃ a g mb hv S f, v = wptr g ∧ DictM w B a g mb hv gs S L f ∧ GoodD gs L ∧ (∀ b, Turn g mb hv b → D b) ∧ (∀ b, S b → D b) ∧ ∀ b, D b → B ≤ b ∧ b < w.heap.size
section
variable {w W W' : World} {B : Nat} {v : Value} {gs : Grps} {L : List Art} {D : Nat → Prop}
theorem DictAt.dict (h : DictAt w B v gs L D) : DictIn w B v gs L := by
  obtain ⟨a, g, mb, hv, S, f, e, h1, h2, -⟩ := h
  exact ⟨a, g, mb, hv, S, f, e, h1, h2⟩
theorem DictAt.low (h : DictAt w B v gs L D) : B ≤ w.heap.size := h.dict.low
theorem DictAt.lt (h : DictAt w B v gs L D) : ∀ b, D b → B ≤ b ∧ b < w.heap.size := by
  obtain ⟨a, g, mb, hv, S, f, e, h1, h2, h3, h4, h5⟩ := h
  exact h5
/-- Blocks turn that are not the dictionary's. -/
theorem DictAt.chg {T : Nat → Prop} (h : DictAt w B v gs L D) (hc : ChgS T w W) (hT : ∀ b, T b → B ≤ b) (hd : ∀ b, D b → ¬ T b) : DictAt W B v gs L D := by
  obtain ⟨a, g, mb, hv, S, f, e, h1, h2, h3, h4, h5⟩ := h
  exact ⟨a, g, mb, hv, S, f, e, h1.chg hc hT (hd _ (h3 _ (.inl rfl))) (hd _ (h3 _ (.inr (.inl rfl)))) (fun b hb => hd _ (h3 _ (.inr (.inr hb)))) (fun b hb => hd _ (h4 _ hb)), h2, h3, h4, fun b hb => ⟨(h5 b hb).1, Nat.lt_of_lt_of_le (h5 b hb).2 hc.size⟩⟩
theorem DictAt.below (h : DictAt w B v gs L D) (hb : Below w.heap.size w W) : DictAt W B v gs L D :=
  h.chg (T := fun _ => False) (.of_below hb) (fun _ h => h.elim) (fun _ _ h => h)
def PutAt (w : World) (B : Nat) (v : Value) (gs : Grps) (L : List Art) (D : Nat → Prop) (x : Art) (e : Ending) (w' : World) : Prop :=
  e = .returned (.int .i64 (artE gs L x)) ∧ ∃ D', DictAt w' B v gs (putL gs L x) D' ∧ (∀ b, D' b → D b ∨ w.heap.size ≤ b) ∧ ChgS D w w'
theorem put_at (h : DictAt w B v gs L D) (x : Art) (cs : List Value) (T : Nat → Prop) (hx : ArtF w T x cs) (hT : ∀ b, T b → b < w.heap.size ∧ ¬ D b) (hok : ArtOk x) :
    Calls Tryd.prog 13 #[v, aggM cs] w (PutAt w B v gs L D x) := by
  obtain ⟨a, g, mb, hv, S, f, rfl, h1, h2, h3, h4, h5⟩ := h
  refine (put_any h1 h2 x cs T hx (fun b hb => (hT b hb).1) (fun b hb ht => (hT b hb).2 (h3 b ht)) hok).mono ?_
  rintro e w' ⟨rfl, hno, hyes⟩
  refine ⟨rfl, ?_⟩
  by_cases he : artE gs L x = 0
  · obtain ⟨hv', S', f', hd, hS', hhv', hc⟩ := hyes he
    have hs := hc.size
    refine ⟨fun b => (D b ∨ w.heap.size ≤ b) ∧ b < w'.heap.size, ?_, fun b hb => hb.1, hc.mono fun k _ hk => h3 k hk⟩
    unfold putL
    rw [if_pos he]
    refine ⟨a, g, mb, hv', S', f', rfl, hd, h2.put hok he, fun b hb => ⟨?_, ?_⟩, fun b hb => ⟨?_, (hd.cont b hb).2.1⟩, fun b hb => ⟨?_, hb.2⟩⟩
    · rcases hb with hb | hb | hb
      · exact .inl (h3 b (.inl hb))
      · exact .inl (h3 b (.inr (.inl hb)))
      · rcases hhv' b hb with hb | hb
        · exact .inl (h3 b (.inr (.inr hb)))
        · exact .inr hb
    · rcases hb with rfl | rfl | hb
      · exact hd.lt
      · exact hd.map.lt
      · exact (hd.own.lt b hb).2
    · rcases hS' b hb with hb | hb
      · exact .inl (h4 b hb)
      · exact .inr hb
    · rcases hb.1 with hb | hb
      · exact (h5 b hb).1
      · exact Nat.le_trans h1.low.1 hb
  · unfold putL
    rw [if_neg he]
    have hb := hno he
    refine ⟨D, ⟨a, g, mb, hv, S, f, rfl, h1.below hb, h2, h3, h4, fun b hb2 => ⟨(h5 b hb2).1, Nat.lt_of_lt_of_le (h5 b hb2).2 hb.size⟩⟩, fun b hb => .inl hb, .of_below hb⟩
theorem dnew_at (a : Nat) (w : World) (hA : Alph w a gs) (hG : GoodG gs) :
    Calls Tryd.prog 23 #[wptr a] w fun e w' => ∃ v D, e = .returned (.tuple #[v, .int .i64 0]) ∧ DictAt w' w.heap.size v gs [] D ∧ Below w.heap.size w w' := by
  refine (dnew_any a gs w w.heap.size (Nat.le_refl _) (fun w' hb => hA.below hb) hG).mono ?_
  rintro e w' ⟨g, mb, rfl, hg, hmb, hd, hb⟩
  refine ⟨_, fun b => b = g ∨ b = mb, rfl, ⟨a, g, mb, _, _, _, rfl, hd, goodD_nil gs, fun b hb => ?_, fun b hb => hb.elim, fun b hb => ?_⟩, hb⟩
  · rcases hb with hb | hb | hb
    · exact .inl hb
    · exact .inr hb
    · cases hb
  · rcases hb with rfl | rfl
    · exact ⟨hg, hd.lt⟩
    · exact ⟨hmb, hd.map.lt⟩
end
/-! made, once more. -/
def MadeAt (w : World) (ss : List ByteArray) (l : List Art) (e : Ending) (w' : World) : Prop :=
  (newErr ss ≠ 0 → e = .returned (.pointer none)) ∧ (newErr ss = 0 → ∃ g B D, e = .returned (wptr g) ∧ w.heap.size ≤ B ∧ DictAt w' B (wptr g) (groupsB ss) (putAll (groupsB ss) l) D) ∧ Below w.heap.size w w'
set_option linter.unusedSimpArgs false in
set_option maxRecDepth 20000 in
set_option maxHeartbeats 4000000 in
theorem made_at (w : World) (A1 : Option Addr) (n1 c1 m : Nat) (ss : List ByteArray) (hr : ReadS w w.heap.size A1 n1 ss) (hn : n1 ≤ 4294967296) (hm : n1 * m ≤ 1152921504606846976) (hm2 : m ≤ 140737488351232) (htm : ∀ s ∈ ss, s.size ≤ m)
    (A2 : Option Addr) (n2 c2 : Nat) (l : List Art) (T : Nat → Prop) (hl : ArtsF w T l (.slice A2 n2 c2)) (hT : ∀ b, T b → b < w.heap.size) (hok : ∀ x ∈ l, ArtOk x) (hn2 : n2 ≤ 4611686018427387904) :
    Calls Tryd.prog 7 #[.slice A1 n1 c1, .slice A2 n2 c2] w (MadeAt w ss l) := by
  have hN := newM_any A1 n1 c1 m ss w hr hn hm hm2 htm
  obtain ⟨A', c', e, -, -⟩ := hl.form
  injection e with e1 hnl e3
  have HNL := Lib.hid hnl
  clear e1 e3 hnl hr hm htm
  have hat := fun (i : Nat) (hi : i < l.length) => art_at hl hi
  have HAT := Lib.hid hat; have HT := Lib.hid hT; have HOK := Lib.hid hok
  clear hat hl hT hok
  go_enter Tryd.func7, Tryd.ntmps7
  go_wp2_with fail
  refine hN.mono ?_
  rintro e w1 ⟨hbad, hgood, hb1⟩
  by_cases herr : newErr ss = 0
  · obtain ⟨ga, rfl, hA, hG⟩ := hgood herr
    have hd := dnew_at ga w1 hA hG
    have HB1 := Lib.hid hb1
    clear hbad hgood hA hG hb1 hN
    go_wp2_with fail
    refine hd.mono ?_
    rintro e w2 ⟨v, D2, rfl, hd2, hb2⟩
    obtain ⟨g, rfl⟩ := hd2.dict.ptr
    have HD2 := Lib.hid hd2; have HB2 := Lib.hid (HB1.out.trans (hb2.mono HB1.out.size))
    clear hd hd2 hb2
    go_wp2
    go_loopw [9] (fun i wr => ∃ (k : Nat) (D : Nat → Prop), k ≤ n2 ∧ i = .int .i64 k ∧ DictAt wr w1.heap.size (wptr g) (groupsB ss) (putAll (groupsB ss) (l.take k)) D ∧ Below w.heap.size w wr) (fun i _ => n2 - (RowKit.intOf i).toNat)
    case atStart => exact ⟨0, D2, by omega, rfl, HD2.out, HB2.out⟩
    case round =>
      obtain ⟨k, D, hk, rfl, hd, hb⟩ := hrel
      have HD := Lib.hid hd; have HB := Lib.hid hb
      clear hd hb
      by_cases hlt : k < n2
      · have hkI : (k : Int) < (n2 : Int) := by omega
        have hkl : k < l.length := by rw [← HNL.out]; exact hlt
        obtain ⟨ad, B1, d1, B2, d2, B3, d3, rfl, hx, hbk, hrun⟩ := HAT.out k hkl
        have hkp := keepS_below HB.out HT.out
        obtain ⟨q0, q1, q2, q3⟩ := hrun wr hkp
        have hp := put_at HD.out l[k] _ T (hx.keep (fun _ h => h) hkp) (fun b hb => ⟨by have := HT.out b hb; have := HB1.out.size; have := HD.out.low; omega, fun hd => by have := HT.out b hb; have := HB1.out.size; have := (HD.out.lt b hd).1; omega⟩) (HOK.out _ (List.getElem_mem hkl))
        have HTK := Lib.hid (putAll_take (gs := groupsB ss) hkl)
        generalize l[k] = x at *
        clear hx hbk hrun hkp
        go_wp2_with fail
        refine hp.mono ?_
        rintro e w3 ⟨rfl, D3, hd3, -, hc3⟩
        have hb3 : Below w1.heap.size wr w3 := hc3.below (fun b hb => (HD.out.lt b hb).1) HD.out.low
        have HD3 := Lib.hid hd3; have HB3 := Lib.hid (HB.out.trans (hb3.mono HB1.out.size))
        clear hp hd3 hb3 hc3 q0 q1 q2 q3
        go_wp2
        go_roundw
        case rel => exact ⟨k + 1, D3, by omega, by go_num, by rw [HTK.out]; exact HD3.out, HB3.out⟩
        case measure => simp [RowKit.intOf]; omega
      · obtain rfl : k = n2 := by omega
        have hd := HD.out
        rw [List.take_of_length_le (by rw [← HNL.out]; exact Nat.le_refl _)] at hd
        have HDF := Lib.hid hd
        clear hd
        go_wp2
        go_ret
        exact ⟨fun h => absurd herr h, fun _ => ⟨g, _, D, rfl, HB1.out.size, HDF.out⟩, HB.out⟩
  · obtain rfl := hbad herr
    have HB1 := Lib.hid hb1
    clear hbad hgood hb1 hN
    go_wp2
    go_ret
    exact ⟨fun _ => rfl, fun h => absurd h herr, HB1.out⟩
end Go.Proofs.YtgkpoopiamicnaaDoor
namespace Go.Proofs.YtgkpoopiamicnaaDoor
open Go.RowKit Go.Lib

section
variable {gs : Grps} {L M : List Art}
theorem twiceB_nodup {l : List ByteArray} (h : l.Nodup) : twiceB l = false := twiceB_iff.2 h
theorem artE_zero {x : Art} (h : GoodA gs x) (hn : thereB L x.head = false) (hl : L.length < 1024) : artE gs L x = 0 := by
  unfold artE
  rw [if_neg (by rw [h.word]; decide), if_neg (by rw [h.head]; decide), if_neg (by have := h.texts.1; have := h.see.1; omega), if_neg (by rw [h.texts.2]; decide), if_neg (by rw [h.see.2.1]; decide), if_neg (by rw [twiceB_nodup h.see.2.2]; decide), if_neg (by rw [hn]; decide), if_neg (by omega)]
/-- Lists of a dictionary with the same articles are the same. -/
theorem goodD_ext (h1 : GoodD gs L) (h2 : GoodD gs M) (he : ∀ x, x ∈ L ↔ x ∈ M) : L = M := by
  have hh : headsL L = headsL M := sortedT_unique (goodO gs) h1.sorted h2.sorted h1.keys fun s => by
    unfold headsL
    rw [List.mem_map, List.mem_map]
    constructor
    · rintro ⟨x, hx, e⟩
      exact ⟨x, (he x).1 hx, e⟩
    · rintro ⟨x, hx, e⟩
      exact ⟨x, (he x).2 hx, e⟩
  rw [← heads_arts h1, ← heads_arts h2, hh]
  refine List.map_congr_left fun s hs => ?_
  obtain ⟨x, hx, rfl⟩ := List.mem_map.1 hs
  rw [artOf_mem h2 hx, artOf_mem h1 ((he x).2 hx)]
/-- Those that are taken, in order. -/
def stepO (gs : Grps) (p : List Art × List Art) (x : Art) : List Art × List Art := if artE gs p.1 x = 0 then (insA gs x p.1, p.2 ++ [x]) else p
def orderSt (gs : Grps) (l : List Art) : List Art × List Art := l.foldl (stepO gs) ([], [])
theorem orderSt_take {l : List Art} {k : Nat} (hk : k < l.length) : orderSt gs (l.take (k + 1)) = stepO gs (orderSt gs (l.take k)) l[k] := by
  unfold orderSt
  rw [List.take_succ_eq_append_getElem hk, List.foldl_append]
  rfl
structure OrdSt (gs : Grps) (p : List Art × List Art) : Prop where
  good : GoodD gs p.1
  mem : ∀ x, x ∈ p.1 ↔ x ∈ p.2
  len : p.1.length = p.2.length
  nodup : (headsL p.2).Nodup
theorem OrdSt.step {p : List Art × List Art} {x : Art} (h : OrdSt gs p) (hok : ArtOk x) : OrdSt gs (stepO gs p x) := by
  unfold stepO
  by_cases he : artE gs p.1 x = 0
  · rw [if_pos he]
    obtain ⟨h1, h2, h3⟩ := artE_good he hok
    refine ⟨h.good.put hok he, fun y => ?_, by rw [insA_len, List.length_append, h.len]; rfl, ?_⟩
    · rw [insA_mem, List.mem_append, List.mem_singleton, h.mem]
      exact or_comm
    · unfold headsL
      rw [List.map_append, List.nodup_append]
      refine ⟨h.nodup, by simp, fun s hs t ht => ?_⟩
      simp only [List.map_cons, List.map_nil, List.mem_singleton] at ht
      subst ht
      rintro rfl
      obtain ⟨y, hy, e⟩ := List.mem_map.1 hs
      have := thereB_iff.2 ⟨y, (h.mem y).2 hy, e⟩
      rw [h2] at this
      cases this
  · rw [if_neg he]
    exact h
theorem ordSt_fold : ∀ (l : List Art) (p : List Art × List Art), OrdSt gs p → (∀ x ∈ l, ArtOk x) → OrdSt gs (l.foldl (stepO gs) p)
  | [], _, h, _ => h
  | x :: l, _, h, hok => ordSt_fold l _ (h.step (hok x List.mem_cons_self)) fun y hy => hok y (List.mem_cons_of_mem _ hy)
theorem ordSt_all {l : List Art} (hok : ∀ x ∈ l, ArtOk x) : OrdSt gs (orderSt gs l) :=
  ordSt_fold l _ ⟨goodD_nil gs, fun x => by simp, rfl, by simp [headsL]⟩ hok
theorem putAll_fst (gs : Grps) : ∀ (l : List Art) (p : List Art × List Art), (l.foldl (stepO gs) p).1 = l.foldl (putL gs) p.1
  | [], _ => rfl
  | x :: l, _ => by
    rw [List.foldl_cons, List.foldl_cons, putAll_fst gs l]
    congr 1
    unfold stepO putL
    split <;> rfl
theorem orderSt_fst (gs : Grps) (l : List Art) : (orderSt gs l).1 = putAll gs l := putAll_fst gs l ([], [])
theorem putAll_good {l : List Art} (hok : ∀ x ∈ l, ArtOk x) : GoodD gs (putAll gs l) := orderSt_fst gs l ▸ (ordSt_all hok).good
/-- Good articles with distinct heads are all taken. -/
theorem fold_all : ∀ (q M : List Art), GoodD gs M → (∀ x ∈ q, GoodA gs x) → (headsL (M ++ q)).Nodup → M.length + q.length ≤ 1024 → GoodD gs (q.foldl (putL gs) M) ∧ ∀ x, x ∈ q.foldl (putL gs) M ↔ x ∈ M ∨ x ∈ q
  | [], M, h, _, _, _ => ⟨h, fun x => by simp⟩
  | y :: q, M, h, hq, hn, hl => by
    have hy := hq y List.mem_cons_self
    have hno : thereB M y.head = false := by
      cases e : thereB M y.head with
      | false => rfl
      | true =>
        obtain ⟨z, hz, ez⟩ := thereB_iff.1 e
        unfold headsL at hn
        rw [List.map_append, List.nodup_append] at hn
        exact absurd ez (hn.2.2 _ (List.mem_map.2 ⟨z, hz, rfl⟩) _ (by simp))
    have he := artE_zero (L := M) hy hno (by rw [List.length_cons] at hl; omega)
    have hp : putL gs M y = insA gs y M := by unfold putL; rw [if_pos he]
    rw [List.foldl_cons, hp]
    have hperm : (headsL (insA gs y M ++ q)).Perm (headsL (M ++ y :: q)) := by
      unfold headsL
      refine List.Perm.map _ ?_
      have h1 : (insA gs y M).Perm (y :: M) := by
        unfold insA
        refine List.perm_middle.trans ?_
        rw [List.take_append_drop]
      exact (h1.append_right q).trans List.perm_middle.symm
    obtain ⟨g1, g2⟩ := fold_all q (insA gs y M) (h.put hy.ok he) (fun x hx => hq x (List.mem_cons_of_mem _ hx)) (hperm.nodup_iff.2 hn) (by rw [insA_len]; rw [List.length_cons] at hl; omega)
    refine ⟨g1, fun x => ?_⟩
    rw [g2, insA_mem, List.mem_cons]
    constructor
    · rintro ((h | h) | h)
      · exact .inr (.inl h)
      · exact .inl h
      · exact .inr (.inr h)
    · rintro (h | h | h)
      · exact .inl (.inr h)
      · exact .inl (.inl h)
      · exact .inr h
/-- The order in which they were added does not matter. -/
theorem order_back {l : List Art} (hok : ∀ x ∈ l, ArtOk x) : putAll gs (orderSt gs l).2.reverse = putAll gs l := by
  have h := ordSt_all (gs := gs) hok
  have hg : ∀ x ∈ (orderSt gs l).2.reverse, GoodA gs x := fun x hx => h.good.arts x ((h.mem x).2 (List.mem_reverse.1 hx))
  have hn : (headsL ([] ++ (orderSt gs l).2.reverse)).Nodup := by
    rw [List.nil_append]
    unfold headsL
    rw [List.map_reverse]
    exact (List.reverse_perm _).nodup_iff.2 h.nodup
  obtain ⟨g1, g2⟩ := fold_all _ [] (goodD_nil gs) hg hn (by rw [List.length_reverse, ← h.len]; have := h.good.len; simpa using this)
  refine goodD_ext g1 (putAll_good hok) fun x => ?_
  rw [show putAll gs (orderSt gs l).2.reverse = (orderSt gs l).2.reverse.foldl (putL gs) [] from rfl, g2, ← orderSt_fst, h.mem, List.mem_reverse]
  simp
/-- Neighbours are in order. -/
theorem order_next (h : GoodD gs L) {i : Nat} (hi : i + 1 < L.length) : orderRes (readRes gs (L[i]'(by omega)).head) (readRes gs L[i + 1].head) (L[i]'(by omega)).head L[i + 1].head = (-1, 0) := by
  have hk1 := h.keys (L[i]'(by omega)).head (List.mem_map.2 ⟨_, List.getElem_mem _, rfl⟩)
  have hk2 := h.keys L[i + 1].head (List.mem_map.2 ⟨_, List.getElem_mem _, rfl⟩)
  have hl : (headsL L).length = L.length := headsL_len
  have hlt := h.lt (i := i) (j := i + 1) (by rw [hl]; exact hi) (by omega)
  have e1 : (headsL L)[i]'(by rw [hl]; omega) = (L[i]'(by omega)).head := by unfold headsL; rw [List.getElem_map]
  have e2 : (headsL L)[i + 1]'(by rw [hl]; omega) = L[i + 1].head := by unfold headsL; rw [List.getElem_map]
  rw [e1, e2] at hlt
  have hr := (goodO gs).range (L[i]'(by omega)).head L[i + 1].head
  unfold keyOk at hk1 hk2
  unfold ordT at hlt hr
  unfold orderRes at hlt hr ⊢
  have he : errTwo (readRes gs (L[i]'(by omega)).head) (readRes gs L[i + 1].head) = 0 := by unfold errTwo; rw [if_pos hk1]; exact hk2
  rw [if_pos he] at hlt hr ⊢
  simp only at hlt hr
  rw [show beforeV (keyS (readRes gs (L[i]'(by omega)).head).2) (keyS (readRes gs L[i + 1].head).2) (L[i]'(by omega)).head L[i + 1].head = -1 by omega]
end
end Go.Proofs.YtgkpoopiamicnaaDoor
namespace Go.Proofs.YtgkpoopiamicnaaDoor
open Go.RowKit Go.Lib

theorem orderSt_len2 (gs : Grps) : ∀ (l : List Art) (p : List Art × List Art), (l.foldl (stepO gs) p).2.length ≤ p.2.length + l.length
  | [], _ => by simp
  | x :: l, p => by
    have h := orderSt_len2 gs l (stepO gs p x)
    have h2 : (stepO gs p x).2.length ≤ p.2.length + 1 := by
      unfold stepO
      split
      · simp
      · omega
    rw [List.foldl_cons, List.length_cons]
    omega
theorem orderSt_len (gs : Grps) (l : List Art) : (orderSt gs l).2.length ≤ l.length := by
  have := orderSt_len2 gs l ([], [])
  simpa [orderSt] using this
/-- A list of articles that is put together; the parts of its articles lie below B. -/
structure InR (B base : Nat) (wr : World) (D : Nat → Prop) (l : List Art) (v : Value) (xs : List Value) : Prop where
  own : wr.ownsRow base 35 4 v l.length xs
  rows : RowsF ArtF wr (fun b => b < B) l xs
  far : ∀ b, v.ownBlock = some b → ¬ D b
section
variable {B base : Nat} {wr w2 w3 : World} {D D' : Nat → Prop} {l : List Art} {v v' : Value} {xs ys : List Value} {x : Art}
theorem InR.start : InR B base wr D [] (.slice none 0 0) [] := ⟨World.ownsRow_nil _ _ _ _, rfl, fun b h => by cases h⟩
/-- The dictionary turns. -/
theorem InR.turn (h : InR B base wr D l v xs) (hc : ChgS D wr w2) (hB : Below B wr w2) (hD : ∀ b, D' b → D b ∨ wr.heap.size ≤ b) : InR B base w2 D' l v xs where
  own := own_chgS h.own hc h.far
  rows := h.rows.imp fun _ _ hy => hy.keep (fun _ h => h) (keepS_below hB fun _ h => h)
  far b hb hd := by
    rcases hD b hd with h1 | h1
    · exact h.far b hb h1
    · have := (h.own.lt b hb).2; omega
theorem InR.below (h : InR B base wr D l v xs) (hb : Below wr.heap.size wr w2) (hBw : B ≤ wr.heap.size) : InR B base w2 D l v xs where
  own := own_below h.own hb
  rows := h.rows.imp fun _ _ hy => hy.keep (fun _ h => h) (keepS_below hb fun _ h => by omega)
  far := h.far
/-- One is put behind. -/
theorem InR.next (h : InR B base wr D l v xs) (hbase : B ≤ base) (hx : ArtF wr (fun b => b < B) x ys) (hown' : w3.ownsRow base 35 4 v' (l.length + 1) (xs ++ ys))
    (hgrow : (wr.alloc (.cells ys.toArray 35)).grownBy w3 v.ownBlock) (hv : v'.ownBlock = v.ownBlock ∨ v'.ownBlock = some (wr.alloc (.cells ys.toArray 35)).heap.size) (hbw : base ≤ wr.heap.size) (hD : ∀ b, D b → b < wr.heap.size) : InR B base w3 D (l ++ [x]) v' (xs ++ ys) := by
  have hbe : Below B wr w3 := ((Below.refl B wr).alloc (by omega) _).grown hgrow (by simp; omega) (fun c hc => by have := (h.own.lt c hc).1; omega)
  refine ⟨by rw [List.length_append]; exact hown', (RowsF.append hx h.rows).imp fun _ _ hy => hy.keep (fun _ h => h) (keepS_below hbe fun _ h => h), fun b hb hd => ?_⟩
  rcases hv with hv | hv
  · rw [hv] at hb; exact h.far b hb hd
  · rw [hv] at hb
    injection hb with hb
    simp only [World.size_alloc] at hb
    have := hD b hd
    omega
end
/-- What a list that was put together reads as. -/
theorem InR.arts {B base : Nat} {wr : World} {D : Nat → Prop} {l : List Art} {v : Value} {xs : List Value} (h : InR B base wr D l v xs) (hB : B ≤ wr.heap.size) : ArtsF wr (fun b => b < wr.heap.size) l v :=
  slF_own h.own (fun b hb => (h.own.lt b hb).2) (h.rows.imp fun _ _ hy => hy.keep (fun _ h => by omega) (fun _ _ => rfl))
end Go.Proofs.YtgkpoopiamicnaaDoor
