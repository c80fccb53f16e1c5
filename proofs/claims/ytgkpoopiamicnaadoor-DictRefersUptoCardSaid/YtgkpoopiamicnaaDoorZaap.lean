/-
  Layer 40: the statements' works: the walk. Conditions: the cell of the library's MaxLen holds some int.
-/
import Derived.Test.YtgkpoopiamicnaaDoorZaao
namespace Go.Proofs.YtgkpoopiamicnaaDoor
open Go.RowKit Go.Lib

theorem readS_lay (w : World) (cs : List ByteArray) : ReadS (w.alloc (.cells (cs.map Value.string).toArray 9)) (w.heap.size + 1) (some ⟨w.heap.size, 0, none⟩) cs.length cs := by
  have := reads_new w 9 (cs.map Value.string)
  rwa [List.length_map] at this
theorem cell_flat {w : World} {a : Addr} {i : Nat} {u : Value} (hi : i ≠ 0) (h : w.cell? (a.add i) = some u) : w.cell? ⟨a.block, a.off + i, none⟩ = some u := by
  rw [show a.add i = ⟨a.block, a.off + i, none⟩ by unfold Addr.add; rw [if_neg hi]] at h
  exact h
/-- An article of a head and of references that were just laid. -/
theorem artF_lay (w : World) (s : ByteArray) (l : List ByteArray) (hl : l.length ≤ 16) : ArtF (w.alloc (.cells (l.map Value.string).toArray 9)) (fun b => b = w.heap.size) ⟨s, [], [], l⟩ [.string s, .slice none 0 0, .slice none 0 0, .slice (some ⟨w.heap.size, 0, none⟩) l.length l.length] := by
  refine ⟨_, _, _, rfl, wdF_nil _ _, txF_nil _ _, _, _, rfl, ⟨Nat.le_refl _, by unfold maxLen; omega⟩, by simp, fun _ => ⟨_, rfl, rfl, fun j u hu => ?_⟩⟩
  rw [add_at, (Blk.new w 9 (l.map Value.string).toArray).cell j]
  simpa using hu
theorem TxF.readS {w : World} {S : Nat → Prop} {B : Nat} {l : List ByteArray} {v : Value} (h : TxF w S l v) (hs : ∀ b, S b → b < B) : ∃ A c, v = .slice A l.length c ∧ l.length ≤ c ∧ c ≤ maxLen ∧ ReadS w B A l.length l := by
  obtain ⟨A, c, rfl, h1, h2⟩ := h
  exact ⟨A, c, rfl, h1.1, h1.2, h2.reads hs⟩
/-- The statements' texts against a list that was just laid. -/
theorem texts_lay (w : World) (A : Option Addr) (n c : Nat) (m : List ByteArray) (h : ReadS w w.heap.size A n m) (hn : n ≤ 100000) :
    Calls Tryd.prog 24 #[.slice A n c, .slice (some ⟨w.heap.size, 0, none⟩) m.length m.length] (w.alloc (.cells (m.map Value.string).toArray 9)) fun e w' => e = .returned (.bool true) ∧ Below w.heap.size w w' := by
  have hb := (Below.refl w.heap.size w).alloc (Nat.le_refl _) (.cells (m.map Value.string).toArray 9)
  refine (texts_any _ A (some ⟨w.heap.size, 0, none⟩) n c m.length m.length m m (show ReadS _ _ _ _ _ from (Reads.below h hb).more hb.size) (by exact Reads.more (readS_lay w m) (by simp)) (by omega)).mono ?_
  rintro e w' ⟨rfl, hb2⟩
  exact ⟨by rw [decide_eq_true rfl], hb.trans (hb2.mono (by simp))⟩
set_option linter.unusedSimpArgs false in
set_option maxRecDepth 20000 in
set_option maxHeartbeats 8000000 in
theorem works_any (w : World) : Calls Tryd.prog 8 #[] w (BoolPost w true) := by
  have hN := fun W c (hr : ReadS W W.heap.size (some ⟨w.heap.size, 0, none⟩) 3 wkL) => newW_any (some ⟨w.heap.size, 0, none⟩) 3 c wkL W hr (by omega) (by decide)
  have HN := Lib.hid hN; clear hN
  go_enter Tryd.func8, Tryd.ntmps8
  go_wp2_with fail
  refine (HN.out _ _ (by exact Reads.more (readS_lay w wkL) (by simp))).mono ?_
  rintro e w1 ⟨_, hok, hb1⟩
  obtain ⟨ga, rfl, hA, hG⟩ := hok wkErr
  rw [wkG_eq] at hA hG
  have hB1 : Below w.heap.size w w1 := ((Below.refl _ w).alloc (Nat.le_refl _) _).trans (hb1.mono (by simp))
  have hd := dnew_in ga w1 hA hG
  have HB1 := Lib.hid hB1; have HG := Lib.hid hG
  clear hok hA hG hb1 HN hB1
  go_wp2_with fail
  refine hd.mono ?_
  rintro e w2 ⟨v, rfl, hd2, hb2⟩
  obtain ⟨g, rfl⟩ := hd2.ptr
  have HD2 := Lib.hid hd2; have HB2 := Lib.hid (HB1.out.trans (hb2.mono HB1.out.size))
  have hp := put_in hd2 ((Below.refl w2.heap.size w2).alloc (Nat.le_refl _) (.cells #[.string sA, .string sC] 9)) wkB _ (fun b => b = w2.heap.size) (artF_lay w2 sB [sA, sC] (by decide)) (fun b hb => by subst hb; exact ⟨by simp, .inr (Nat.le_refl _)⟩) (wkOk (.inl rfl))
  clear hd hd2 hb2
  go_wp2_with fail
  refine hp.mono ?_
  rintro e w3 ⟨rfl, hd3, hb3⟩
  rw [wkP1] at hd3
  rw [wkE1]
  have HB3 := Lib.hid ((HB2.out.alloc HB2.out.size (.cells #[.string sA, .string sC] 9)).trans (hb3.mono HB1.out.size))
  have hp := put_in hd3 ((Below.refl w3.heap.size w3).alloc (Nat.le_refl _) (.cells #[.string sB] 9)) wkA _ (fun b => b = w3.heap.size) (artF_lay w3 sA [sB] (by decide)) (fun b hb => by subst hb; exact ⟨by simp, .inr (Nat.le_refl _)⟩) (wkOk (.inr (.inl rfl)))
  clear hd3 hb3 HD2
  go_wp2_with fail
  refine hp.mono ?_
  rintro e w4 ⟨rfl, hd4, hb4⟩
  rw [wkP2] at hd4
  rw [wkE2]
  have HB4 := Lib.hid ((HB3.out.alloc HB3.out.size (.cells #[.string sB] 9)).trans (hb4.mono HB1.out.size))
  have hp := put_in hd4 ((Below.refl w4.heap.size w4).alloc (Nat.le_refl _) (.cells #[.string sAB] 9)) wkAB _ (fun b => b = w4.heap.size) (artF_lay w4 sAB [sAB] (by decide)) (fun b hb => by subst hb; exact ⟨by simp, .inr (Nat.le_refl _)⟩) (wkOk (.inr (.inr (.inl rfl))))
  clear hd4 hb4
  go_wp2_with fail
  refine hp.mono ?_
  rintro e w5 ⟨rfl, hd5, hb5⟩
  rw [wkP3] at hd5
  rw [wkE3]
  have HB5 := Lib.hid ((HB4.out.alloc HB4.out.size (.cells #[.string sAB] 9)).trans (hb5.mono HB1.out.size))
  have hl := list_in hd5
  have HD5 := Lib.hid hd5
  clear hd5 hb5 hp
  go_wp2_with fail
  refine hl.mono ?_
  rintro e w6 ⟨vl, rfl, hls, hb6⟩
  have hcy := cycles_in (HD5.out.below hb6)
  have HB6 := Lib.hid hb6; have HLS := Lib.hid hls
  clear hl hb6 hls
  go_wp2_with fail
  refine hcy.mono ?_
  rintro e w7 ⟨vc, rfl, hcs, hb7⟩
  rw [wkCyc] at hcs
  have hfr := from_in ((HD5.out.below HB6.out).below hb7) sA (by decide)
  rw [wkFrom, wkFromE] at hfr
  have HB7 := Lib.hid hb7; have HCS := Lib.hid hcs
  clear hcy hb7 hcs
  go_wp2_with fail
  refine hfr.mono ?_
  rintro e w8 ⟨vf, rfl, hfo, hb8⟩
  have hd8 := ((HD5.out.below HB6.out).below HB7.out).below hb8
  have hms := missing_one hd8 (by rw [wkMiss]; decide)
  rw [wkMiss] at hms
  have HB8 := Lib.hid hb8; have HFO := Lib.hid hfo; have HD8 := Lib.hid hd8
  clear hfr hb8 hfo hd8
  obtain ⟨AL, cL, rfl, -, -⟩ := HLS.out.form
  obtain ⟨ad, csL, rfl, had, hart, hcell⟩ := HLS.out.at_ (fun x cs h => h.len) (i := 1) (by decide)
  have hc0 : csL[0]? = some (.string sAB) := by obtain ⟨v1, v2, v3, e, -⟩ := hart; rw [e]; rfl
  have hh8 := ((HB7.out.trans (HB8.out.mono HB7.out.size)).cell (p := ad.add (1 * 4 + 0)) (by rw [block_of_add]; exact had.2)).trans (hcell 0 _ hc0)
  obtain ⟨AC, cC, rfl, -, -⟩ := HCS.out.form
  obtain ⟨ac, csC, rfl, hac, hlx, hcellC⟩ := HCS.out.at_ (fun x cs h => by obtain ⟨v, e, -⟩ := h; rw [e]; rfl) (i := 0) (by decide)
  obtain ⟨v0, rfl, htx0⟩ := hlx
  have hv0 := hcellC 0 v0 rfl
  obtain ⟨A0, c0, rfl, -, -, hr0⟩ := htx0.readS (B := w7.heap.size) (fun b hb => hb.2)
  obtain ⟨AF, cF, rfl, -, -⟩ := ownsRow_form HFO.out
  have hrf := Reads.of_own HFO.out
  have HR0 := Lib.hid hr0; have HRF := Lib.hid hrf; have HV0 := Lib.hid hv0
  clear hart hcell hc0 hcellC htx0 hr0 hrf hv0 had
  have hh9 := cell_flat (i := 4) (by decide) hh8
  have hl3 : ((wk3.length : Nat) : Int) = 3 := rfl
  have hs1 : sAB.toList = [97, 98] := by rw [Lib.toList_data]; rfl
  go_wp2_with fail
  refine hms.mono ?_
  rintro e w9 ⟨vm, rfl, htm, hb9⟩
  obtain ⟨AM, cM, rfl, -, -, hrm⟩ := htm.readS (B := w9.heap.size) (fun b hb => hb.2)
  have hb79 : Below w7.heap.size w7 w9 := HB8.out.trans (hb9.mono HB8.out.size)
  have hv9 : w9.cell? ac = some (.slice A0 2 c0) := by
    have h := (hb79.cell (p := ac.add (0 * 1 + 0)) (by rw [block_of_add]; exact hac.2)).trans HV0.out
    rwa [show ac.add (0 * 1 + 0) = ac from Addr.add_zero' ac] at h
  have hd9 := HD8.out.below hb9
  have HR0' := Lib.hid (show ReadS w9 w9.heap.size A0 2 [sA, sB] from (HR0.out.below hb79).more hb79.size)
  have HRF' := Lib.hid (show ReadS w9 w9.heap.size AF 2 [sA, sB] from (Reads.below HRF.out hb9).more hb9.size)
  have HRM := Lib.hid hrm; have HD9 := Lib.hid hd9; have HB9 := Lib.hid hb9
  clear hrm hd9 hb79 htm hb9 hms HR0 HRF HV0
  have ht1 := texts_lay w9 AM 1 cM [sC] HRM.out (by decide)
  go_wp2_with fail
  refine ht1.mono ?_
  rintro e w10 ⟨rfl, hb10⟩
  have hv10 := (hb10.cell (p := ac) (by have := hac.2; have := HB8.out.size; have := HB9.out.size; omega)).trans hv9
  have ht2 := texts_lay w10 A0 2 c0 [sA, sB] (show ReadS _ _ _ _ _ from (Reads.below HR0'.out hb10).more hb10.size) (by decide)
  have HB10 := Lib.hid hb10
  clear hv9 ht1 hb10
  go_wp2_with fail
  refine ht2.mono ?_
  rintro e w11 ⟨rfl, hb11⟩
  have hb911 := HB10.out.trans (hb11.mono HB10.out.size)
  have ht3 := texts_lay w11 AF 2 cF [sA, sB] (show ReadS _ _ _ _ _ from (Reads.below HRF'.out hb911).more hb911.size) (by decide)
  have HB11 := Lib.hid hb911
  clear hv10 ht2 hb11 hb911
  go_wp2_with fail
  refine ht3.mono ?_
  rintro e w12 ⟨rfl, hb12⟩
  have hb912 := HB11.out.trans (hb12.mono HB11.out.size)
  have hd12 := HD9.out.below hb912
  have hp := put_in hd12 (Below.refl _ _) wkX _ (fun _ => False) ⟨_, _, _, rfl, wdF_nil _ _, txF_nil _ _, txF_nil _ _⟩ (fun b hb => hb.elim) (wkOk (.inr (.inr (.inr rfl))))
  have hq : Below w.heap.size w w12 := (((((HB5.out.trans (HB6.out.mono HB5.out.size)).trans (HB7.out.mono (Nat.le_trans HB5.out.size HB6.out.size))).trans (HB8.out.mono (Nat.le_trans (Nat.le_trans HB5.out.size HB6.out.size) HB7.out.size))).trans (HB9.out.mono (Nat.le_trans (Nat.le_trans (Nat.le_trans HB5.out.size HB6.out.size) HB7.out.size) HB8.out.size)))).trans (hb912.mono (Nat.le_trans (Nat.le_trans (Nat.le_trans (Nat.le_trans HB5.out.size HB6.out.size) HB7.out.size) HB8.out.size) HB9.out.size))
  have HB12 := Lib.hid hq
  clear ht3 hb12 hb912 hd12 hq
  go_wp2_with fail
  refine hp.mono ?_
  rintro e w13 ⟨rfl, -, hb13⟩
  rw [wkE4]
  have HB13 := Lib.hid (HB12.out.trans (hb13.mono HB1.out.size))
  clear hb13 hp
  go_wp2
  go_ret
  exact ⟨rfl, HB13.out⟩
end Go.Proofs.YtgkpoopiamicnaaDoor
namespace Go.Proofs.YtgkpoopiamicnaaDoor
open Go.RowKit Go.Lib

theorem add_add' (a : Addr) (i j : Nat) : (a.add i).add j = a.add (i + j) := by
  unfold Addr.add
  by_cases hi : i = 0
  · subst hi; simp
  · by_cases hj : j = 0
    · subst hj; simp
    · rw [if_neg hi, if_neg hj, if_neg (by omega)]
      simp [Nat.add_assoc]
/-- An element of a slice of articles, read. -/
def ArtCells (w : World) (q : Addr) (x : Art) (A1 : Option Addr) (c1 : Nat) (A2 : Option Addr) (c2 : Nat) (A3 : Option Addr) (c3 : Nat) : Prop :=
  w.cell? q = some (.string x.head) ∧ w.cell? ⟨q.block, q.off + 1, none⟩ = some (.slice A1 x.word.length c1) ∧ w.cell? ⟨q.block, q.off + 2, none⟩ = some (.slice A2 x.texts.length c2) ∧ w.cell? ⟨q.block, q.off + 3, none⟩ = some (.slice A3 x.see.length c3)
theorem art_at {w : World} {S : Nat → Prop} {l : List Art} {A : Option Addr} {n c : Nat} (h : ArtsF w S l (.slice A n c)) {i : Nat} (hi : i < l.length) :
    ∃ ad A1 c1 A2 c2 A3 c3, A = some ad ∧ ArtF w S l[i] [.string l[i].head, .slice A1 l[i].word.length c1, .slice A2 l[i].texts.length c2, .slice A3 l[i].see.length c3] ∧ S ad.block ∧ ∀ w', KeepS S w w' → ArtCells w' (ad.add (i * 4)) l[i] A1 c1 A2 c2 A3 c3 := by
  obtain ⟨ad, cs, rfl, hb, hx, hc⟩ := h.at_ (fun x cs h => h.len) hi
  obtain ⟨A1, c1, A2, c2, A3, c3, rfl⟩ := hx.form
  have hq : ∀ w', KeepS S w w' → ∀ j u, [Value.string l[i].head, .slice A1 l[i].word.length c1, .slice A2 l[i].texts.length c2, .slice A3 l[i].see.length c3][j]? = some u → w'.cell? ((ad.add (i * 4)).add j) = some u := fun w' hk j u hu => by
    rw [add_add', hk _ (by rw [block_of_add]; exact hb)]
    exact hc j u hu
  refine ⟨ad, A1, c1, A2, c2, A3, c3, rfl, hx, hb, fun w' hk => ⟨?_, cell_flat (by decide) (hq w' hk 1 _ rfl), cell_flat (by decide) (hq w' hk 2 _ rfl), cell_flat (by decide) (hq w' hk 3 _ rfl)⟩⟩
  have := hq w' hk 0 _ rfl
  rwa [Addr.add_zero'] at this
def putAll (gs : Grps) (l : List Art) : List Art := l.foldl (putL gs) []
theorem putAll_take {gs : Grps} {l : List Art} {k : Nat} (hk : k < l.length) : putAll gs (l.take (k + 1)) = putL gs (putAll gs (l.take k)) l[k] := by
  unfold putAll
  rw [List.take_succ_eq_append_getElem hk, List.foldl_append]
  rfl
def MadePost (w : World) (ss : List ByteArray) (l : List Art) (e : Ending) (w' : World) : Prop :=
  (newErr ss ≠ 0 → e = .returned (.pointer none)) ∧ (newErr ss = 0 → ∃ v B, e = .returned v ∧ w.heap.size ≤ B ∧ DictIn w' B v (groupsB ss) (putAll (groupsB ss) l)) ∧ Below w.heap.size w w'
set_option linter.unusedSimpArgs false in
set_option maxRecDepth 20000 in
set_option maxHeartbeats 4000000 in
theorem made_any (w : World) (A1 : Option Addr) (n1 c1 m : Nat) (ss : List ByteArray) (hr : ReadS w w.heap.size A1 n1 ss) (hn : n1 ≤ 4294967296) (hm : n1 * m ≤ 1152921504606846976) (hm2 : m ≤ 140737488351232) (htm : ∀ s ∈ ss, s.size ≤ m)
    (A2 : Option Addr) (n2 c2 : Nat) (l : List Art) (T : Nat → Prop) (hl : ArtsF w T l (.slice A2 n2 c2)) (hT : ∀ b, T b → b < w.heap.size) (hok : ∀ x ∈ l, ArtOk x) (hn2 : n2 ≤ 4611686018427387904) :
    Calls Tryd.prog 7 #[.slice A1 n1 c1, .slice A2 n2 c2] w (MadePost w ss l) := by
  have hN := newM_any A1 n1 c1 m ss w hr hn hm hm2 htm
  obtain ⟨A', c', e, -, -⟩ := hl.form
  injection e with e1 hnl e3
  have HNL := Lib.hid hnl
  clear e1 e3 hnl hr hm htm
  have hat := fun (i : Nat) (hi : i < l.length) => art_at hl hi
  have HAT := Lib.hid hat; have HT := Lib.hid hT; have HOK := Lib.hid hok
  clear hat hl hT hok
  go_enter Tryd.func7, Tryd.ntmps7
  go_wp2_with fail
  refine hN.mono ?_
  rintro e w1 ⟨hbad, hgood, hb1⟩
  by_cases herr : newErr ss = 0
  · obtain ⟨ga, rfl, hA, hG⟩ := hgood herr
    have hd := dnew_in ga w1 hA hG
    have HB1 := Lib.hid hb1
    clear hbad hgood hA hG hb1 hN
    go_wp2_with fail
    refine hd.mono ?_
    rintro e w2 ⟨v, rfl, hd2, hb2⟩
    have HD2 := Lib.hid hd2; have HB2 := Lib.hid (HB1.out.trans (hb2.mono HB1.out.size))
    clear hd hd2 hb2
    go_wp2
    go_loopw [9] (fun i wr => ∃ k : Nat, k ≤ n2 ∧ i = .int .i64 k ∧ DictIn wr w1.heap.size v (groupsB ss) (putAll (groupsB ss) (l.take k)) ∧ Below w.heap.size w wr) (fun i _ => n2 - (RowKit.intOf i).toNat)
    case atStart => exact ⟨0, by omega, rfl, HD2.out, HB2.out⟩
    case round =>
      obtain ⟨k, hk, rfl, hd, hb⟩ := hrel
      have HD := Lib.hid hd; have HB := Lib.hid hb
      clear hd hb
      by_cases hlt : k < n2
      · have hkI : (k : Int) < (n2 : Int) := by omega
        have hkl : k < l.length := by rw [← HNL.out]; exact hlt
        obtain ⟨ad, B1, d1, B2, d2, B3, d3, rfl, hx, hbk, hrun⟩ := HAT.out k hkl
        have hkp := keepS_below HB.out HT.out
        obtain ⟨q0, q1, q2, q3⟩ := hrun wr hkp
        have hp := put_in HD.out (Below.refl _ _) l[k] _ T (hx.keep (fun _ h => h) hkp) (fun b hb => by have := HT.out b hb; have := HB1.out.size; have := HD.out.low; omega) (HOK.out _ (List.getElem_mem hkl))
        have HTK := Lib.hid (putAll_take (gs := groupsB ss) hkl)
        generalize l[k] = x at *
        clear hx hbk hrun hkp
        go_wp2_with fail
        refine hp.mono ?_
        rintro e w3 ⟨rfl, hd3, hb3⟩
        have HD3 := Lib.hid hd3; have HB3 := Lib.hid (HB.out.trans (hb3.mono HB1.out.size))
        clear hp hd3 hb3 q0 q1 q2 q3
        go_wp2
        go_roundw
        case rel => exact ⟨k + 1, by omega, by go_num, by rw [HTK.out]; exact HD3.out, HB3.out⟩
        case measure => simp [RowKit.intOf]; omega
      · obtain rfl : k = n2 := by omega
        have hd := HD.out
        rw [List.take_of_length_le (by rw [← HNL.out]; exact Nat.le_refl _)] at hd
        have HDF := Lib.hid hd
        clear hd
        go_wp2
        go_ret
        exact ⟨fun h => absurd herr h, fun _ => ⟨_, _, rfl, HB1.out.size, HDF.out⟩, HB.out⟩
  · obtain rfl := hbad herr
    have HB1 := Lib.hid hb1
    clear hbad hgood hb1 hN
    go_wp2
    go_ret
    exact ⟨fun _ => rfl, fun h => absurd h herr, HB1.out⟩
end Go.Proofs.YtgkpoopiamicnaaDoor
namespace Go.Proofs.YtgkpoopiamicnaaDoor
open Go.RowKit Go.Lib

set_option linter.unusedSimpArgs false in
set_option maxRecDepth 20000 in
set_option maxHeartbeats 8000000 in
theorem same_any (w : World) (x : Art) (cs1 cs2 : List Value) (S1 S2 : Nat → Prop) (h1 : ArtF w S1 x cs1) (h2 : ArtF w S2 x cs2) (hS1 : ∀ b, S1 b → b < w.heap.size) (hS2 : ∀ b, S2 b → b < w.heap.size) :
    Calls Tryd.prog 18 #[aggM cs1, aggM cs2] w (BoolPost w true) := by
  obtain ⟨A1, c1, A2, c2, A3, c3, rfl, hw1, ht1, hs1, qw1, qt1, qs1⟩ := h1.reads hS1
  obtain ⟨B1, d1, B2, d2, B3, d3, rfl, hw2, ht2, hs2, qw2, qt2, qs2⟩ := h2.reads hS2
  have hx1 := Blk.new w 35 #[.string x.head, .slice A1 x.word.length c1, .slice A2 x.texts.length c2, .slice A3 x.see.length c3]
  have hx2 := Blk.new (w.alloc (.cells #[.string x.head, .slice A1 x.word.length c1, .slice A2 x.texts.length c2, .slice A3 x.see.length c3] 35)) 35 #[.string x.head, .slice B1 x.word.length d1, .slice B2 x.texts.length d2, .slice B3 x.see.length d3]
  have hx1' := hx1.alloc (.cells #[.string x.head, .slice B1 x.word.length d1, .slice B2 x.texts.length d2, .slice B3 x.see.length d3] 35)
  have hbe := ((Below.refl w.heap.size w).alloc (Nat.le_refl _) (.cells #[.string x.head, .slice A1 x.word.length c1, .slice A2 x.texts.length c2, .slice A3 x.see.length c3] 35)).alloc (by simp) (.cells #[.string x.head, .slice B1 x.word.length d1, .slice B2 x.texts.length d2, .slice B3 x.see.length d3] 35)
  obtain ⟨W0, hW0⟩ : ∃ W, (w.alloc (.cells #[.string x.head, .slice A1 x.word.length c1, .slice A2 x.texts.length c2, .slice A3 x.see.length c3] 35)).alloc (.cells #[.string x.head, .slice B1 x.word.length d1, .slice B2 x.texts.length d2, .slice B3 x.see.length d3] 35) = W := ⟨_, rfl⟩
  rw [hW0] at hx2 hx1' hbe
  simp only [World.size_alloc] at hx2
  have htx : ∀ W, Below w.heap.size w W → Calls Tryd.prog 24 #[.slice A2 x.texts.length c2, .slice B2 x.texts.length d2] W (BoolPost W true) := fun W hb => by
    have h := texts_any W A2 B2 x.texts.length c2 x.texts.length d2 x.texts x.texts (show ReadS _ _ _ _ _ from (Reads.below ht1 hb).more hb.size) (show ReadS _ _ _ _ _ from (Reads.below ht2 hb).more hb.size) (by unfold maxLen at *; omega)
    rwa [decide_eq_true rfl] at h
  have hts : ∀ W, Below w.heap.size w W → Calls Tryd.prog 24 #[.slice A3 x.see.length c3, .slice B3 x.see.length d3] W (BoolPost W true) := fun W hb => by
    have h := texts_any W A3 B3 x.see.length c3 x.see.length d3 x.see x.see (show ReadS _ _ _ _ _ from (Reads.below hs1 hb).more hb.size) (show ReadS _ _ _ _ _ from (Reads.below hs2 hb).more hb.size) (by unfold maxLen at *; omega)
    rwa [decide_eq_true rfl] at h
  have HTX := Lib.hid htx; have HTS := Lib.hid hts; have HB0 := Lib.hid hbe; have HW1 := Lib.hid hw1; have HW2 := Lib.hid hw2
  have hcx : ∀ W, Below W0.heap.size W0 W → (W.cell? ⟨w.heap.size, 0, none⟩ = some (.string x.head) ∧ W.cell? ⟨w.heap.size, 1, none⟩ = some (.slice A1 x.word.length c1) ∧ W.cell? ⟨w.heap.size, 2, none⟩ = some (.slice A2 x.texts.length c2) ∧ W.cell? ⟨w.heap.size, 3, none⟩ = some (.slice A3 x.see.length c3)) ∧
      W.cell? ⟨w.heap.size + 1, 0, none⟩ = some (.string x.head) ∧ W.cell? ⟨w.heap.size + 1, 1, none⟩ = some (.slice B1 x.word.length d1) ∧ W.cell? ⟨w.heap.size + 1, 2, none⟩ = some (.slice B2 x.texts.length d2) ∧ W.cell? ⟨w.heap.size + 1, 3, none⟩ = some (.slice B3 x.see.length d3) := fun W hb => by
    have y1 := hx1'.below hb hx1'.lt
    have y2 := hx2.below hb hx2.lt
    exact ⟨⟨y1.cell 0, y1.cell 1, y1.cell 2, y1.cell 3⟩, y2.cell 0, y2.cell 1, y2.cell 2, y2.cell 3⟩
  have HCX := Lib.hid hcx
  obtain ⟨⟨x0, x1, x2, x3⟩, y0, y1, y2, y3⟩ := hcx W0 (Below.refl _ _)
  have hsz0 : W0.heap.size = w.heap.size + 1 + 1 := by rw [← hW0]; simp
  unfold maxLen at qw1 qw2
  clear h1 h2 hw1 ht1 hs1 hw2 ht2 hs2 hx1 hx2 hx1' hbe htx hts hcx qt1 qs1 qt2 qs2
  generalize hnw : x.word.length = nw at *
  have HNW := Lib.hid hnw
  clear hnw
  generalize x.texts.length = nt at *
  generalize x.see.length = ns at *
  go_enter Tryd.func18, Tryd.ntmps18
  go_wp2_with fail
  refine (HTX.out _ HB0.out).mono ?_
  rintro e w1 ⟨rfl, hb1⟩
  obtain ⟨⟨x0', x1', x2', x3'⟩, y0', y1', y2', y3'⟩ := HCX.out w1 hb1
  have HB1 := Lib.hid hb1
  clear hb1 hW0 x0 x1 x2 x3 y0 y1 y2 y3
  go_wp2_with fail
  refine (HTS.out _ (HB0.out.trans (HB1.out.mono HB0.out.size))).mono ?_
  rintro e w2 ⟨rfl, hb2⟩
  obtain ⟨⟨u0, u1, u2, u3⟩, v0, v1, v2, v3⟩ := HCX.out w2 (HB1.out.trans (hb2.mono HB1.out.size))
  have HB2 := Lib.hid (HB1.out.trans (hb2.mono HB1.out.size))
  clear hb2 x0' x1' x2' x3' y0' y1' y2' y3'
  go_wp2
  clear u0 u1 u2 u3 v0 v1 v2 v3
  go_loopw [5] (fun i wr => ∃ j : Nat, j ≤ nw ∧ i = .int .i64 j ∧ Below W0.heap.size W0 wr) (fun i _ => nw - (RowKit.intOf i).toNat)
  case atStart => exact ⟨0, by omega, rfl, HB2.out⟩
  case round =>
    obtain ⟨j, hj, rfl, hb⟩ := hrel
    obtain ⟨⟨u0, u1, u2, u3⟩, v0, v1, v2, v3⟩ := HCX.out wr hb
    have HB := Lib.hid hb
    clear hb
    by_cases hlt : j < nw
    · have hjI : (j : Int) < (nw : Int) := by omega
      have hjl : j < x.word.length := by rw [HNW.out]; exact hlt
      have hbw : Below w.heap.size w wr := HB0.out.trans (HB.out.mono HB0.out.size)
      obtain ⟨ad1, rfl, had1, a0, a1⟩ := snd_cells HW1.out hjl
      obtain ⟨ad2, rfl, had2, b0, b1⟩ := snd_cells HW2.out hjl
      have k1 := (hbw.cell (p := ad1.add (j * 2)) (by rw [block_of_add]; exact had1)).trans a0
      have k2 := (hbw.cell (p := ⟨(ad1.add (j * 2)).block, (ad1.add (j * 2)).off + 1, none⟩) (by rw [block_of_add]; exact had1)).trans a1
      have k3 := (hbw.cell (p := ad2.add (j * 2)) (by rw [block_of_add]; exact had2)).trans b0
      have k4 := (hbw.cell (p := ⟨(ad2.add (j * 2)).block, (ad2.add (j * 2)).off + 1, none⟩) (by rw [block_of_add]; exact had2)).trans b1
      generalize x.word[j] = sd at *
      obtain ⟨sd1, sd2⟩ := sd
      dsimp only at k1 k2 k3 k4
      clear a0 a1 b0 b1 had1 had2 hjl
      go_upto_region 6 with fail
      refine wp_region_held_drew (S := (fun W => W.cell? ⟨w.heap.size, 1, none⟩ = some (.slice (some ad1) nw c1) ∧ W.cell? ⟨w.heap.size + 1, 1, none⟩ = some (.slice (some ad2) nw d1) ∧ W.cell? (ad1.add (j * 2)) = some (.int .u32 sd1) ∧ W.cell? ⟨(ad1.add (j * 2)).block, (ad1.add (j * 2)).off + 1, none⟩ = some (.int .u32 sd2) ∧ W.cell? (ad2.add (j * 2)) = some (.int .u32 sd1) ∧ W.cell? ⟨(ad2.add (j * 2)).block, (ad2.add (j * 2)).off + 1, none⟩ = some (.int .u32 sd2))) (by kernel_rfl) ?_ (fun hHeld => ?_)
      · (try dsimp only)
        exact ⟨u1, v1, k1, k2, k3, k4⟩
      refine wpAnyH_take (i := 0) (v := ?_) rfl (by kernel_rfl) (by kernel_rfl) (by kernel_rfl) (fun _ _ _ h => h) (Or.inl ⟨by rfl, ?_⟩) (by assumption) ?_
      rotate_left
      · intro w hSw
        (try dsimp only at hSw)
        go_simp <;> with_reducible rfl
      try simp only [Act.put, List.getElem_toArray, List.getElem_cons_succ, List.getElem_cons_zero, List.setIfInBounds_toArray, List.set_cons_zero, List.set_cons_succ]
      refine wpAnyH_take (i := 1) (v := ?_) rfl (by kernel_rfl) (by kernel_rfl) (by kernel_rfl) (fun _ _ _ h => h) (Or.inl ⟨by rfl, ?_⟩) (by assumption) ?_
      rotate_left
      · intro w hSw
        (try dsimp only at hSw)
        go_simp <;> with_reducible rfl
      try simp only [Act.put, List.getElem_toArray, List.getElem_cons_succ, List.getElem_cons_zero, List.setIfInBounds_toArray, List.set_cons_zero, List.set_cons_succ]
      refine wpAnyH_take (i := 2) (v := ?_) rfl (by kernel_rfl) (by kernel_rfl) (by kernel_rfl) (fun _ _ _ h => h) (Or.inl ⟨by rfl, ?_⟩) (by assumption) ?_
      rotate_left
      · intro w hSw
        (try dsimp only at hSw)
        go_simp <;> with_reducible rfl
      try simp only [Act.put, List.getElem_toArray, List.getElem_cons_succ, List.getElem_cons_zero, List.setIfInBounds_toArray, List.set_cons_zero, List.set_cons_succ]
      refine wpAnyH_take (i := 3) (v := ?_) rfl (by kernel_rfl) (by kernel_rfl) (by kernel_rfl) (fun _ _ _ h => h) (Or.inl ⟨by rfl, ?_⟩) (by assumption) ?_
      rotate_left
      · intro w hSw
        (try dsimp only at hSw)
        go_simp <;> with_reducible rfl
      try simp only [Act.put, List.getElem_toArray, List.getElem_cons_succ, List.getElem_cons_zero, List.setIfInBounds_toArray, List.set_cons_zero, List.set_cons_succ]
      refine wpAnyH_take (i := 4) (v := ?_) rfl (by kernel_rfl) (by kernel_rfl) (by kernel_rfl) (fun _ _ _ h => h) (Or.inl ⟨by rfl, ?_⟩) (by assumption) ?_
      rotate_left
      · intro w hSw
        (try dsimp only at hSw)
        go_simp <;> with_reducible rfl
      try simp only [Act.put, List.getElem_toArray, List.getElem_cons_succ, List.getElem_cons_zero, List.setIfInBounds_toArray, List.set_cons_zero, List.set_cons_succ]
      refine wpAnyH_take (i := 5) (v := ?_) rfl (by kernel_rfl) (by kernel_rfl) (by kernel_rfl) (fun _ _ _ h => h) (Or.inl ⟨by rfl, ?_⟩) (by assumption) ?_
      rotate_left
      · intro w hSw
        (try dsimp only at hSw)
        go_simp <;> with_reducible rfl
      try simp only [Act.put, List.getElem_toArray, List.getElem_cons_succ, List.getElem_cons_zero, List.setIfInBounds_toArray, List.set_cons_zero, List.set_cons_succ]
      refine wpAnyH_take (i := 6) (v := ?_) rfl (by kernel_rfl) (by kernel_rfl) (by kernel_rfl) (fun _ _ _ h => h) (Or.inl ⟨by rfl, ?_⟩) (by assumption) ?_
      rotate_left
      · intro w hSw
        (try dsimp only at hSw)
        go_simp <;> with_reducible rfl
      try simp only [Act.put, List.getElem_toArray, List.getElem_cons_succ, List.getElem_cons_zero, List.setIfInBounds_toArray, List.set_cons_zero, List.set_cons_succ]
      refine wpAnyH_take (i := 7) (v := ?_) rfl (by kernel_rfl) (by kernel_rfl) (by kernel_rfl) (fun _ _ _ h => h) (Or.inl ⟨by rfl, ?_⟩) (by assumption) ?_
      rotate_left
      · intro w hSw
        (try dsimp only at hSw)
        go_simp <;> with_reducible rfl
      try simp only [Act.put, List.getElem_toArray, List.getElem_cons_succ, List.getElem_cons_zero, List.setIfInBounds_toArray, List.set_cons_zero, List.set_cons_succ]
      refine wpAnyH_take (i := 8) (v := ?_) rfl (by kernel_rfl) (by kernel_rfl) (by kernel_rfl) (fun _ _ _ h => h) (Or.inl ⟨by rfl, ?_⟩) (by assumption) ?_
      rotate_left
      · intro w hSw
        (try dsimp only at hSw)
        go_simp <;> with_reducible rfl
      try simp only [Act.put, List.getElem_toArray, List.getElem_cons_succ, List.getElem_cons_zero, List.setIfInBounds_toArray, List.set_cons_zero, List.set_cons_succ]
      refine wpAnyH_take (i := 9) (v := ?_) rfl (by kernel_rfl) (by kernel_rfl) (by kernel_rfl) (fun _ _ _ h => h) (Or.inl ⟨by rfl, ?_⟩) (by assumption) ?_
      rotate_left
      · intro w hSw
        (try dsimp only at hSw)
        go_simp <;> with_reducible rfl
      try simp only [Act.put, List.getElem_toArray, List.getElem_cons_succ, List.getElem_cons_zero, List.setIfInBounds_toArray, List.set_cons_zero, List.set_cons_succ]
      refine wpAnyH_take (i := 10) (v := ?_) rfl (by kernel_rfl) (by kernel_rfl) (by kernel_rfl) (fun _ _ _ h => h) (Or.inl ⟨by rfl, ?_⟩) (by assumption) ?_
      rotate_left
      · intro w hSw
        (try dsimp only at hSw)
        go_simp <;> with_reducible rfl
      try simp only [Act.put, List.getElem_toArray, List.getElem_cons_succ, List.getElem_cons_zero, List.setIfInBounds_toArray, List.set_cons_zero, List.set_cons_succ]
      refine wpAnyH_done (by kernel_rfl) ?_ _
      go_wp2
      go_roundw
      case rel => exact ⟨j + 1, by omega, by go_num, HB.out.drew⟩
      case measure => simp [RowKit.intOf]; omega
    · obtain rfl : j = nw := by omega
      go_wp2
      go_ret
      exact ⟨rfl, HB0.out.trans (HB.out.mono HB0.out.size)⟩
set_option linter.unusedSimpArgs false in
set_option maxRecDepth 20000 in
set_option maxHeartbeats 8000000 in
theorem articles_eq (w : World) (l : List Art) (v1 v2 : Value) (S1 S2 : Nat → Prop) (h1 : ArtsF w S1 l v1) (h2 : ArtsF w S2 l v2) (hS1 : ∀ b, S1 b → b < w.heap.size) (hS2 : ∀ b, S2 b → b < w.heap.size) :
    Calls Tryd.prog 16 #[v1, v2] w (BoolPost w true) := by
  obtain ⟨A1, c1, rfl, hc1, hm1⟩ := h1.form
  obtain ⟨A2, c2, rfl, -, -⟩ := h2.form
  have hat1 := fun (i : Nat) (hi : i < l.length) => art_at h1 hi
  have hat2 := fun (i : Nat) (hi : i < l.length) => art_at h2 hi
  have hn : l.length ≤ 9223372036854775807 := by unfold maxLen at hm1; omega
  have HA1 := Lib.hid hat1; have HA2 := Lib.hid hat2; have HS1 := Lib.hid hS1; have HS2 := Lib.hid hS2
  obtain ⟨n, hln⟩ : ∃ n, l.length = n := ⟨_, rfl⟩
  rw [hln] at hn ⊢
  have HLN := Lib.hid hln
  clear h1 h2 hat1 hat2 hS1 hS2 hc1 hm1 hln
  go_enter Tryd.func16, Tryd.ntmps16
  go_wp2
  go_loopw [5] (fun i wr => ∃ j : Nat, j ≤ n ∧ i = .int .i64 j ∧ Below w.heap.size w wr) (fun i _ => n - (RowKit.intOf i).toNat)
  case atStart => exact ⟨0, by omega, rfl, Below.refl _ _⟩
  case round =>
    obtain ⟨j, hj, rfl, hb⟩ := hrel
    have HB := Lib.hid hb
    clear hb
    by_cases hlt : j < n
    · have hjI : (j : Int) < (n : Int) := by omega
      have hjl : j < l.length := by rw [HLN.out]; exact hlt
      obtain ⟨ad1, X1, y1, X2, y2, X3, y3, rfl, hx1, hd1, hr1⟩ := HA1.out j hjl
      obtain ⟨ad2, Z1, z1, Z2, z2, Z3, z3, rfl, hx2, hd2, hr2⟩ := HA2.out j hjl
      have hk1 := keepS_below HB.out HS1.out
      have hk2 := keepS_below HB.out HS2.out
      have hsame := same_any wr.drew l[j] _ _ S1 S2 (hx1.keep (w' := wr.drew) (fun _ h => h) hk1) (hx2.keep (w' := wr.drew) (fun _ h => h) hk2) (fun b hb => Nat.lt_of_lt_of_le (HS1.out b hb) HB.out.size) (fun b hb => Nat.lt_of_lt_of_le (HS2.out b hb) HB.out.size)
      have hq1 : ∀ W, Below w.heap.size w W → ArtCells W (ad1.add (j * 4)) l[j] X1 y1 X2 y2 X3 y3 := fun W hb => hr1 W (keepS_below hb HS1.out)
      have hq2 : ∀ W, Below w.heap.size w W → ArtCells W (ad2.add (j * 4)) l[j] Z1 z1 Z2 z2 Z3 z3 := fun W hb => hr2 W (keepS_below hb HS2.out)
      generalize l[j] = x at *
      unfold ArtCells at hq1 hq2
      have hkk := fun W hb => (⟨hq1 W hb, hq2 W hb⟩ : _ ∧ _)
      have HKK := Lib.hid hkk; have HSM := Lib.hid hsame
      obtain ⟨⟨p0, p1, p2, p3⟩, q0, q1, q2, q3⟩ := hkk wr HB.out
      clear hx1 hx2 hr1 hr2 hk1 hk2 hsame hq1 hq2 hkk hd1 hd2 hjl
      generalize x.head = xh at *
      generalize x.word.length = xw at *
      generalize x.texts.length = xt at *
      generalize x.see.length = xs at *
      go_upto_region 6 with fail
      refine wp_region_held_drew (S := (fun W => (W.cell? (ad1.add (j * 4)) = some (.string xh) ∧ W.cell? ⟨(ad1.add (j * 4)).block, (ad1.add (j * 4)).off + 1, none⟩ = some (.slice X1 xw y1) ∧ W.cell? ⟨(ad1.add (j * 4)).block, (ad1.add (j * 4)).off + 2, none⟩ = some (.slice X2 xt y2) ∧ W.cell? ⟨(ad1.add (j * 4)).block, (ad1.add (j * 4)).off + 3, none⟩ = some (.slice X3 xs y3)) ∧ W.cell? (ad2.add (j * 4)) = some (.string xh) ∧ W.cell? ⟨(ad2.add (j * 4)).block, (ad2.add (j * 4)).off + 1, none⟩ = some (.slice Z1 xw z1) ∧ W.cell? ⟨(ad2.add (j * 4)).block, (ad2.add (j * 4)).off + 2, none⟩ = some (.slice Z2 xt z2) ∧ W.cell? ⟨(ad2.add (j * 4)).block, (ad2.add (j * 4)).off + 3, none⟩ = some (.slice Z3 xs z3))) (by kernel_rfl) ?_ (fun hHeld => ?_)
      · (try dsimp only)
        first | exact HKK.out _ HB5.out | exact HKK.out _ HB.out.drew
      refine wpAnyH_take (i := 0) (v := ?_) rfl (by kernel_rfl) (by kernel_rfl) (by kernel_rfl) (fun _ _ _ h => h) (Or.inl ⟨by rfl, ?_⟩) (by assumption) ?_
      rotate_left
      · intro w hSw
        (try dsimp only at hSw)
        go_simp <;> with_reducible rfl
      try simp only [Act.put, List.getElem_toArray, List.getElem_cons_succ, List.getElem_cons_zero, List.setIfInBounds_toArray, List.set_cons_zero, List.set_cons_succ]
      refine wpAnyH_take (i := 1) (v := ?_) rfl (by kernel_rfl) (by kernel_rfl) (by kernel_rfl) (fun _ _ _ h => h) (Or.inl ⟨by rfl, ?_⟩) (by assumption) ?_
      rotate_left
      · intro w hSw
        (try dsimp only at hSw)
        go_simp <;> with_reducible rfl
      try simp only [Act.put, List.getElem_toArray, List.getElem_cons_succ, List.getElem_cons_zero, List.setIfInBounds_toArray, List.set_cons_zero, List.set_cons_succ]
      refine wpAnyH_take (i := 2) (v := ?_) rfl (by kernel_rfl) (by kernel_rfl) (by kernel_rfl) (fun _ _ _ h => h) (Or.inl ⟨by rfl, ?_⟩) (by assumption) ?_
      rotate_left
      · intro w hSw
        (try dsimp only at hSw)
        go_simp <;> with_reducible rfl
      try simp only [Act.put, List.getElem_toArray, List.getElem_cons_succ, List.getElem_cons_zero, List.setIfInBounds_toArray, List.set_cons_zero, List.set_cons_succ]
      refine wpAnyH_take (i := 3) (v := ?_) rfl (by kernel_rfl) (by kernel_rfl) (by kernel_rfl) (fun _ _ _ h => h) (Or.inl ⟨by rfl, ?_⟩) (by assumption) ?_
      rotate_left
      · intro w hSw
        (try dsimp only at hSw)
        go_simp <;> with_reducible rfl
      try simp only [Act.put, List.getElem_toArray, List.getElem_cons_succ, List.getElem_cons_zero, List.setIfInBounds_toArray, List.set_cons_zero, List.set_cons_succ]
      refine wpAnyH_take (i := 4) (v := ?_) rfl (by kernel_rfl) (by kernel_rfl) (by kernel_rfl) (fun _ _ _ h => h) (Or.inl ⟨by rfl, ?_⟩) (by assumption) ?_
      rotate_left
      · intro w hSw
        (try dsimp only at hSw)
        go_simp <;> with_reducible rfl
      try simp only [Act.put, List.getElem_toArray, List.getElem_cons_succ, List.getElem_cons_zero, List.setIfInBounds_toArray, List.set_cons_zero, List.set_cons_succ]
      refine wpAnyH_take (i := 5) (v := ?_) rfl (by kernel_rfl) (by kernel_rfl) (by kernel_rfl) (fun _ _ _ h => h) (Or.inl ⟨by rfl, ?_⟩) (by assumption) ?_
      rotate_left
      · intro w hSw
        (try dsimp only at hSw)
        go_simp <;> with_reducible rfl
      try simp only [Act.put, List.getElem_toArray, List.getElem_cons_succ, List.getElem_cons_zero, List.setIfInBounds_toArray, List.set_cons_zero, List.set_cons_succ]
      refine wpAnyH_take (i := 6) (v := ?_) rfl (by kernel_rfl) (by kernel_rfl) (by kernel_rfl) (fun _ _ _ h => h) (Or.inl ⟨by rfl, ?_⟩) (by assumption) ?_
      rotate_left
      · intro w hSw
        (try dsimp only at hSw)
        go_simp <;> with_reducible rfl
      try simp only [Act.put, List.getElem_toArray, List.getElem_cons_succ, List.getElem_cons_zero, List.setIfInBounds_toArray, List.set_cons_zero, List.set_cons_succ]
      refine wpAnyH_take (i := 7) (v := ?_) rfl (by kernel_rfl) (by kernel_rfl) (by kernel_rfl) (fun _ _ _ h => h) (Or.inl ⟨by rfl, ?_⟩) (by assumption) ?_
      rotate_left
      · intro w hSw
        (try dsimp only at hSw)
        go_simp <;> with_reducible rfl
      try simp only [Act.put, List.getElem_toArray, List.getElem_cons_succ, List.getElem_cons_zero, List.setIfInBounds_toArray, List.set_cons_zero, List.set_cons_succ]
      refine wpAnyH_ready (rs := [8]) (by kernel_rfl) (by simp) ?_
      refine AllReadyH.cons rfl (fun K hK => ?_) AllReadyH.nil
      go_simp
      (try go_wp2_with fail)
      refine HSM.out.mono ?_
      rintro e w5 ⟨rfl, hb5⟩
      have HB5 := Lib.hid (HB.out.drew.trans (hb5.mono HB.out.size))
      clear hb5
      (try go_simp)
      refine hK.out _ _ ?_ (fun hHeld' => ?_)
      · (try dsimp only)
        first | exact HKK.out _ HB5.out | exact HKK.out _ HB.out.drew
      clear hK K hHeld
      have hHeld := hHeld'
      clear hHeld'
      refine wpAnyH_take (i := 9) (v := ?_) rfl (by kernel_rfl) (by kernel_rfl) (by kernel_rfl) (fun _ _ _ h => h) (Or.inl ⟨by rfl, ?_⟩) (by assumption) ?_
      rotate_left
      · intro w hSw
        (try dsimp only at hSw)
        go_simp <;> with_reducible rfl
      try simp only [Act.put, List.getElem_toArray, List.getElem_cons_succ, List.getElem_cons_zero, List.setIfInBounds_toArray, List.set_cons_zero, List.set_cons_succ]
      refine wpAnyH_done (by kernel_rfl) ?_ _
      go_wp2
      go_roundw
      case rel => exact ⟨j + 1, by omega, by go_num, HB5.out⟩
      case measure => simp [RowKit.intOf]; omega
    · obtain rfl : j = n := by omega
      go_wp2
      go_ret
      exact ⟨rfl, HB.out⟩
end Go.Proofs.YtgkpoopiamicnaaDoor
