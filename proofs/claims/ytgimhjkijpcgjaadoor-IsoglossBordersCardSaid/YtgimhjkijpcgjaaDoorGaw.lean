/-
  layer 37: the maps of a land. Conditions: names of at most maxLen bytes.
-/
import Derived.Test.YtgimhjkijpcgjaaDoorIsU
import Derived.Test.YtgimhjkijpcgjaaDoorIsZ
import Derived.Test.YtgimhjkijpcgjaaDoorGap
import Derived.Test.YtgimhjkijpcgjaaDoorGan
namespace Go.Proofs.YtgimhjkijpcgjaaDoor
open Go.RowKit Go.Lib

def MapsPost (w : World) (names : List ByteArray) (roads : List Rd) (e : Ending) (w' : World) : Prop :=
  ∃ (p q : Option Addr) (ok : Bool), e = .returned (.tuple #[.pointer p, .pointer q, .bool ok]) ∧ (ok = true → MapO w' p (newO names roads) ∧ RefO w' q (newO names roads)) ∧ Below w.heap.size w w'
set_option maxRecDepth 20000 in
set_option maxHeartbeats 4000000 in
theorem maps_any (hnew : NewAny) (href : RefAny) (A B : Option Addr) (n c m k : Nat) (names : List ByteArray) (roads : List Rd) (w : World) (hN : ReadS w w.heap.size A n names) (hR : Reads w w.heap.size 3 B m (roads.flatMap roadV)) (hs : ∀ s ∈ names, s.size ≤ maxLen) :
    Calls Tryd.prog 11 #[.agg #[.slice A n c, .slice B m k]] w (MapsPost w names roads) := by
  have hb0 := (Below.refl w.heap.size w).alloc (Nat.le_refl _) (.cells #[.slice A n c, .slice B m k] 25)
  have hk := Blk.new w 25 #[.slice A n c, .slice B m k]
  have hn := hnew A B n c m k names roads _ ((Reads.below hN hb0).more hb0.size) ((hR.below hb0).more hb0.size) hs
  have hr := fun W (hW : Below w.heap.size w W) => href A B n c m k names roads W ((Reads.below hN hW).more hW.size) ((hR.below hW).more hW.size) hs
  have c0 := hk.cell 0; have c1 := hk.cell 1
  simp only [List.getElem?_toArray, List.getElem?_cons_zero, List.getElem?_cons_succ] at c0 c1
  have HB0 := Lib.hid hb0; have HK := Lib.hid hk; have HN := Lib.hid hn; have HR := Lib.hid hr
  clear hb0 hk hn hr hN hR hs hnew href
  by_cases h1 : (24 : Int) < (n : Int)
  · go_enter Tryd.func11, Tryd.ntmps11
    go_wp2
    go_ret3
    exact ⟨_, _, _, rfl, (fun h => by cases h), HB0.out⟩
  · by_cases h2 : (300 : Int) < (m : Int)
    · go_enter Tryd.func11, Tryd.ntmps11
      go_wp2
      go_ret3
      exact ⟨_, _, _, rfl, (fun h => by cases h), HB0.out⟩
    · go_enter Tryd.func11, Tryd.ntmps11
      go_wp2_with fail
      refine HN.out.mono ?_
      intro e w1 h1'
      obtain ⟨p, rfl, hM, hb1⟩ := h1'.om
      have hr := HR.out w1 (HB0.out.trans (hb1.mono HB0.out.size))
      have hk1 := HK.out.below hb1 HK.out.lt
      have HM := Lib.hid hM; have HB1 := Lib.hid (HB0.out.trans (hb1.mono HB0.out.size))
      clear h1' hM hb1 HN HR c0 c1
      have c0 := hk1.cell 0; have c1 := hk1.cell 1
      simp only [List.getElem?_toArray, List.getElem?_cons_zero, List.getElem?_cons_succ] at c0 c1
      clear hk1
      go_wp2_with fail
      refine hr.mono ?_
      intro e w2 h2'
      obtain ⟨q, rfl, hQ, hb2⟩ := h2'.om
      have HM2 := Lib.hid (HM.out.below hb2)
      have HQ := Lib.hid hQ; have HB2 := Lib.hid (HB1.out.trans (hb2.mono HB1.out.size))
      have HE : Hid (newE names roads = 0 → ∃ M, newO names roads = some M) := Lib.hid (fun h => ⟨_, by unfold newO; rw [if_pos h]⟩)
      clear h2' hQ hb2 hr HM HB1 c0 c1
      generalize newE names roads = E at *
      obtain ⟨om, hom⟩ : ∃ om, newO names roads = om := ⟨_, rfl⟩
      rw [hom] at HM2 HQ HE
      have HOM := Lib.hid hom
      clear hom
      by_cases hE : E = 0
      · have hEB : (E == 0) = true := by rw [hE]; rfl
        obtain ⟨M, rfl⟩ := HE.out hE
        obtain ⟨g, rfl, hg⟩ := HM2.out
        clear hE hg HE
        go_wp2
        go_ret3
        exact ⟨_, _, _, rfl, (fun _ => by rw [HOM.out]; exact ⟨HM2.out, HQ.out⟩), HB2.out⟩
      · have hEB : (E == 0) = false := beq_false_of_ne hE
        clear hE
        go_wp2
        go_ret3
        exact ⟨_, _, _, rfl, (fun h => by cases h), HB2.out⟩
end Go.Proofs.YtgimhjkijpcgjaaDoor
namespace Go.Proofs.YtgimhjkijpcgjaaDoor
open Go.RowKit Go.Lib

theorem regE_same {R : List Rd} {vs : List Int} {N : Nat} (hok : ∀ x ∈ R, Okr N x) {x y : Nat} (h : Con (regE R vs) x y) : valAt vs (y : Int) = valAt vs (x : Int) := by
  have h1 := h (fun z => if valAt vs (z : Int) = valAt vs (x : Int) then 1 else 0) (fun e he => by
    obtain ⟨r, hr, rfl⟩ := List.mem_map.1 he
    obtain ⟨h1, h2⟩ := List.mem_filter.1 hr
    obtain ⟨a0, a1, b0, b1, _, _, _⟩ := hok r h1
    have h3 : valAt vs r.1 = valAt vs r.2.1 := by unfold cutB at h2; simpa using h2
    show (if valAt vs ((r.1.toNat : Nat) : Int) = _ then 1 else 0) = (if valAt vs ((r.2.1.toNat : Nat) : Int) = _ then 1 else 0)
    rw [Int.toNat_of_nonneg a0, Int.toNat_of_nonneg b0, h3])
  rw [if_pos rfl] at h1
  by_cases e : valAt vs (y : Int) = valAt vs (x : Int)
  · exact e
  · rw [if_neg e] at h1; cases h1
theorem reg_val {R : List Rd} {vs : List Int} {N : Nat} (hok : ∀ x ∈ R, Okr N x) {x : Nat} (hx : x < N) : valAt vs ((lbF (regE R vs) N x : Nat) : Int) = valAt vs (x : Int) :=
  regE_same hok ((lbF_lab (openE_in hok _)).con x hx)
/-- A road is cut exactly if its ends are in different regions. -/
theorem reg_cut {R : List Rd} {vs : List Int} {N : Nat} (hok : ∀ x ∈ R, Okr N x) {x : Rd} (hx : x ∈ R) : cutB vs x = !(lbF (regE R vs) N x.1.toNat == lbF (regE R vs) N x.2.1.toNat) := by
  obtain ⟨a0, a1, b0, b1, _, _, _⟩ := hok x hx
  have hL := lbF_lab (n := N) (openE_in hok fun x => !cutB vs x)
  have ha : x.1.toNat < N := by omega
  have hb : x.2.1.toNat < N := by omega
  have va := reg_val (vs := vs) hok ha
  have vb := reg_val (vs := vs) hok hb
  rw [Int.toNat_of_nonneg a0] at va
  rw [Int.toNat_of_nonneg b0] at vb
  cases hc : cutB vs x
  · have he : (x.1.toNat, x.2.1.toNat) ∈ regE R vs := List.mem_map.2 ⟨x, List.mem_filter.2 ⟨hx, by rw [hc]; rfl⟩, rfl⟩
    have := hL.edge _ he
    simp only at this
    have h2 : lbF (regE R vs) N x.1.toNat = lbF (regE R vs) N x.2.1.toNat := this
    rw [h2]; simp
  · have hne : ¬ lbF (regE R vs) N x.1.toNat = lbF (regE R vs) N x.2.1.toNat := fun e => by
      rw [e, vb] at va
      unfold cutB at hc
      rw [va] at hc
      simp at hc
    rw [beq_false_of_ne hne]; rfl
/-- What the reference sees around a region. -/
def arnd1 (reg vs : List Int) (k : Int) (x : Rd) : List Int := (if valAt reg x.1 = k ∧ ¬ valAt reg x.2.1 = k then [valAt vs x.2.1] else []) ++ (if valAt reg x.2.1 = k ∧ ¬ valAt reg x.1 = k then [valAt vs x.1] else [])
def arndK (R : List Rd) (reg vs : List Int) (j : Nat) (k : Int) : List Int := (R.take j).flatMap (arnd1 reg vs k)
theorem arnd1_see (reg vs : List Int) (k : Int) (x : Rd) (h : cutB vs x = !(valAt reg x.1 == valAt reg x.2.1)) : arnd1 reg vs k x = if cutB vs x = true then seen1 reg vs k x else [] := by
  unfold arnd1 seen1
  by_cases e : valAt reg x.1 = valAt reg x.2.1
  · rw [h, e]
    simp
  · rw [h, beq_false_of_ne e]
    simp only [Bool.not_false, if_true]
    congr 1
    · by_cases e1 : valAt reg x.1 = k
      · rw [if_pos ⟨e1, fun e2 => e (e1.trans e2.symm)⟩, if_pos e1]
      · rw [if_neg (fun h => e1 h.1), if_neg e1]
    · by_cases e1 : valAt reg x.2.1 = k
      · rw [if_pos ⟨e1, fun e2 => e (e2.trans e1.symm)⟩, if_pos e1]
      · rw [if_neg (fun h => e1 h.1), if_neg e1]
theorem arnd_list (reg vs : List Int) (k : Int) : ∀ (l : List Rd), (∀ x ∈ l, cutB vs x = !(valAt reg x.1 == valAt reg x.2.1)) → l.flatMap (arnd1 reg vs k) = (l.filter fun x => cutB vs x).flatMap (seen1 reg vs k)
  | [], _ => rfl
  | x :: l, h => by
    rw [List.flatMap_cons, arnd1_see reg vs k x (h x (by simp)), arnd_list reg vs k l (fun y hy => h y (by simp [hy])), List.filter_cons]
    by_cases hc : cutB vs x = true
    · rw [if_pos hc, if_pos hc, List.flatMap_cons]
    · rw [if_neg hc, if_neg hc, List.nil_append]
theorem arnd_see {R : List Rd} {vs : List Int} {N : Nat} (hok : ∀ x ∈ R, Okr N x) (k : Int) : arndK R (lbI N (regE R vs)) vs R.length k = seeK R (lbI N (regE R vs)) vs R.length k := by
  unfold arndK seeK
  rw [List.take_length]
  refine arnd_list _ _ _ _ fun x hx => ?_
  rw [reg_cut hok hx]
  obtain ⟨a0, a1, b0, b1, _, _, _⟩ := hok x hx
  have h1 := lbI_val (es := regE R vs) (show x.1.toNat < N by omega)
  have h2 := lbI_val (es := regE R vs) (show x.2.1.toNat < N by omega)
  rw [Int.toNat_of_nonneg a0] at h1
  rw [Int.toNat_of_nonneg b0] at h2
  rw [h1, h2]
  rw [Bool.eq_iff_iff]; simp; omega
theorem arndK_step (R : List Rd) (reg vs : List Int) {j : Nat} (hj : j < R.length) (k : Int) : arndK R reg vs (j + 1) k = arndK R reg vs j k ++ arnd1 reg vs k R[j] := by
  unfold arndK
  rw [List.take_succ_eq_append_getElem hj, List.flatMap_append]
  simp
theorem arnd1_len (reg vs : List Int) (k : Int) (x : Rd) : (arnd1 reg vs k x).length ≤ 2 := by
  unfold arnd1
  rw [List.length_append]
  split <;> split <;> simp
theorem arndK_len (R : List Rd) (reg vs : List Int) (j : Nat) (k : Int) : (arndK R reg vs j k).length ≤ 2 * R.length := by
  have : ∀ l : List Rd, (l.flatMap (arnd1 reg vs k)).length ≤ 2 * l.length := fun l => by
    induction l with
    | nil => exact Nat.le_refl _
    | cons x l ih => rw [List.flatMap_cons, List.length_append, List.length_cons]; have := arnd1_len reg vs k x; omega
  have h := this (R.take j)
  rw [List.length_take] at h
  unfold arndK; omega
/-- Whether all of some values are the first one, and there is one. -/
def oneV (l : List Int) : Bool := decide (0 < l.length) && l.all fun v => v == l.headD 0
theorem oneV_keys (l : List Int) : oneV l = decide ((keysOf l).length = 1) := by
  rw [Bool.eq_iff_iff, decide_eq_true_iff, keysOf_one]
  unfold oneV
  cases l with
  | nil => simp
  | cons x l =>
    simp only [List.length_cons, List.headD_cons, List.all_cons, beq_self_eq_true, Bool.true_and, Bool.and_eq_true, decide_eq_true_iff, List.all_eq_true, beq_iff_eq]
    constructor
    · rintro ⟨_, h⟩; exact ⟨x, l, rfl, h⟩
    · rintro ⟨y, m, e, h⟩
      injection e with e1 e2
      subst e1 e2
      exact ⟨by omega, h⟩
end Go.Proofs.YtgimhjkijpcgjaaDoor
namespace Go.Proofs.YtgimhjkijpcgjaaDoor
open Go.RowKit Go.Lib

abbrev natF (f : Nat → Nat) : Nat → Int := fun x => (f x : Int)
theorem rowA_setL {N : Nat} (r : Nat → Int) {x : Nat} (hx : x < N) (d : Int) : (rowA N r).set x (.int .i64 d) = rowA N (setF r x d) := by
  have := rowA_set r hx d
  rw [List.setIfInBounds_toArray] at this
  simpa using this
theorem meet_set (f : Nat → Nat) (a b : Nat) : setF (setF (natF f) a ((min (f a) (f b) : Nat) : Int)) b ((min (f a) (f b) : Nat) : Int) = natF (meet f a b) := by
  funext x
  unfold setF meet natF
  by_cases h1 : x = b
  · subst h1; simp
  · by_cases h2 : x = a
    · subst h2; simp [h1]
    · simp [h1, h2]
theorem rowA_id (N : Nat) : rowA N (natF fun x => x) = nats (List.range N) := rfl
/-- The memory of classes. -/
structure ClsM (w wr : World) (B1 B2 qo N co : Nat) (vR vB : Value) (R : List Rd) (bs : List Int) (r : Nat → Int) : Prop where
  out : wr.ownsRow w.heap.size 3 1 (.slice (some ⟨qo, 0, none⟩) N co) N (rowA N r)
  rd : wr.ownsRow B1 71 3 vR R.length (R.flatMap roadV)
  bn : wr.ownsRow B2 3 1 vB R.length (bs.map (Value.int .i64))
  below : Below w.heap.size w wr
  lt : qo < B2
  ge : w.heap.size ≤ qo
section
variable {w wr w' : World} {B1 B2 qo N co : Nat} {vR vB : Value} {R : List Rd} {bs : List Int} {r : Nat → Int}
theorem ClsM.drew (h : ClsM w wr B1 B2 qo N co vR vB R bs r) : ClsM w wr.drew B1 B2 qo N co vR vB R bs r := ⟨h.out.drew, h.rd.drew, h.bn.drew, h.below.drew, h.lt, h.ge⟩
theorem ClsM.cell (h : ClsM w wr B1 B2 qo N co vR vB R bs r) {x : Nat} (hx : x < N) : wr.cell? ⟨qo, x, none⟩ = some (.int .i64 (r x)) := by
  rw [h.out.cellAt x (by omega)]
  simp [rowA, hx]
theorem ClsM.set_ (h : ClsM w wr B1 B2 qo N co vR vB R bs r) {x : Nat} (hx : x < N) (d : Int) : ClsM w (wr.setCell ⟨qo, x, none⟩ (.int .i64 d)) B1 B2 qo N co vR vB R bs (setF r x d) := by
  have hb : vR.ownBlock ≠ some qo := by
    have := own_own_ne h.rd h.out (by decide)
    rcases this with e | e
    · rw [e]; simp
    · exact e
  refine ⟨by rw [← rowA_setL r hx d]; exact (h.out.stored x _).1, ownsRow_setCell_other h.rd hb _, ownsRow_setCell_other h.bn (fun e => ?_) _, h.below.setCell (p := ⟨qo, x, none⟩) h.ge _, h.lt, h.ge⟩
  have := (h.bn.lt qo e).1
  have := h.lt
  omega
end
theorem edges_step {R : List Rd} {p : Rd → Bool} {f : Nat → Nat} {j : Nat} (hj : j < R.length) (h : ∀ e ∈ openE (R.take j) p, f e.1 = f e.2) (he : p R[j] = true → f R[j].1.toNat = f R[j].2.1.toNat) : ∀ e ∈ openE (R.take (j + 1)) p, f e.1 = f e.2 := by
  intro e he'
  rw [openE_step R p hj] at he'
  rcases List.mem_append.1 he' with h1 | h1
  · exact h e h1
  · by_cases hp : p R[j] = true
    · rw [if_pos hp] at h1
      obtain rfl : e = _ := by simpa using h1
      exact he hp
    · rw [if_neg hp] at h1; cases h1
theorem openE_mem {R : List Rd} {p : Rd → Bool} {j : Nat} (hj : j < R.length) (hp : p R[j] = true) : (R[j].1.toNat, R[j].2.1.toNat) ∈ openE R p := List.mem_map.2 ⟨R[j], List.mem_filter.2 ⟨List.getElem_mem hj, hp⟩, rfl⟩
set_option linter.unusedSimpArgs false in
set_option maxRecDepth 40000 in
set_option maxHeartbeats 8000000 in
theorem refClasses_any (p : Option Addr) (om : Option Pts) (A : Option Addr) (m c : Nat) (l : List (List Int)) (least : Int) (w : World) (h : RefO w p om) (hG : NewO om) (hl : ReadII w w.heap.size A m l) (hm : m ≤ maxLen) (hchk : chkN (lenO om) l = 0) :
    Calls Tryd.prog 52 #[.pointer p, .slice A m c, .int .i64 least] w (GivesI w (lbI (lenO om) (borE (roadsO om) l least))) := by
  have hlen := fun W (hW : Below w.heap.size w W) => refLen_any p om W (h.below hW)
  have hrd := fun W (hW : Below w.heap.size w W) => refRoads_any p om W (h.below hW) hG.roads
  have hbn := fun W (hW : Below w.heap.size w W) => refBundles_any p om A m c l W (h.below hW) hG (hl.later hW) hm
  have hN0 : 0 < lenO om := by have := (chkN_zero hchk).1; omega
  have hbv : bunV om l = bunL (roadsO om) l := by unfold bunV; rw [if_pos hchk]
  have hok := hG.okr
  have h512 := hG.roads
  have hfew := hG.few
  obtain ⟨i0, hi, hz0, hz1, hz2⟩ := info_parts (show (Tryd.prog.info? 3).map (fun i => (i.zero, i.size, i.bytes)) = some (some (.int .i64 0), 1, 8) by kernel_rfl)
  unfold GivesE at hbn
  rw [hbv, hchk] at hbn
  have HLEN := Lib.hid hlen; have HRD := Lib.hid hrd; have HBN := Lib.hid hbn; have HOK := Lib.hid hok
  clear h hG hlen hrd hbn hok hl hbv hchk
  unfold GivesI
  generalize lenO om = N at *
  generalize roadsO om = R at *
  go_enter Tryd.func52, Tryd.ntmps52
  go_wp2
  go_loopw [7, 8] (fun v i wr => ∃ j : Nat, j ≤ N ∧ i = .int .i64 j ∧ wr.ownsRow w.heap.size 3 1 v j (nats (List.range j)) ∧ Below w.heap.size w wr) (fun _ i _ => N - (intOf i).toNat)
  case atStart => exact ⟨0, by omega, rfl, World.ownsRow_nil _ _ _ _, Below.refl _ _⟩
  case round =>
    obtain ⟨j, hj, rfl, hown, hb⟩ := hrel
    have hln := HLEN.out wr hb
    have HB := Lib.hid hb; have HO := Lib.hid hown
    clear hb hown
    by_cases hlt : j < N
    · have hltI : (j : Int) < (N : Int) := by omega
      have HRN := Lib.hid (reads_new wr 3 [.int .i64 (j : Int)])
      go_wp2_with fail
      refine hln.mono ?_
      rintro e w' ⟨rfl, rfl⟩
      go_wp2_with (at_builtin; refine wpList_append_any _ rfl _ _ 26 rfl w.heap.size 3 i0 (.int .i64 0) 1 8 Tryd.underlying26 hi hz0 hz1 hz2 rfl (by decide) _ _ _ rfl (HO.out.alloc _) _ _ _ _ [.int .i64 (j : Int)] rfl HRN.out (by simp [Value.oneCell']) (by unfold maxLen; omega) (by omega) (by have := HB.out.size; simp; omega) ?_; intro v' w4 hown' hgrow hx; clear hx)
      have hb4 : Below w.heap.size w w4 := (HB.out.alloc HB.out.size _).grown hgrow (by have := HB.out.size; simp; omega) (fun g hg => (HO.out.lt g hg).1)
      clear hgrow
      go_roundw
      case rel => exact ⟨j + 1, by omega, by go_num, by rw [List.range_succ, nats, List.map_append]; simpa [nats] using hown', hb4⟩
      case measure => simp [intOf]; omega
    · obtain rfl : N = j := by omega
      have hr1 := HRD.out wr HB.out
      go_wp2_with fail
      refine hln.mono ?_
      rintro e w' ⟨rfl, rfl⟩
      go_wp2_with fail
      refine hr1.mono ?_
      rintro e w1 ⟨vR, rfl, hoR, hb1⟩
      obtain ⟨AR, cR, rfl, _, _⟩ := ownsRow_form hoR
      have hB1 := HB.out.trans (hb1.mono HB.out.size)
      have hbn := HBN.out w1 hB1
      have HB1 := Lib.hid hB1; have HOR := Lib.hid hoR; have HO1 := Lib.hid (own_below HO.out hb1); have HSZ := Lib.hid hb1.size
      clear hoR hb1 hB1 hr1 hln
      go_wp2_with fail
      refine hbn.mono ?_
      rintro e w2 ⟨vB, rfl, hoB, hb2⟩
      obtain ⟨AB, cB, rfl, _, _⟩ := ownsRow_form hoB
      have ho2 := own_below HO1.out hb2
      obtain ⟨qo, co, rfl, hqo1, hqo2⟩ := HO1.out.form hN0
      have HM0 : Hid (ClsM w w2 wr.heap.size w1.heap.size qo N co (.slice AR R.length cR) (.slice AB R.length cB) R (bunL R l) (natF fun x => x)) :=
        Lib.hid ⟨by rw [rowA_id]; exact ho2, own_below HOR.out hb2, (by have := hoB; rwa [bunL_len] at this), HB1.out.trans (hb2.mono HB1.out.size), hqo2, hqo1⟩
      clear ho2 hoB hb2 HO1 HOR HB1 HSZ HB HO hqo1 hqo2 hbn
      rw [bunL_len]
      generalize wr.heap.size = B1 at *
      generalize w1.heap.size = B2 at *
      have hbl : ∀ (j : Nat) (hj : j < R.length), (bunL R l)[j]? = some ((bundN l R[j] : Nat) : Int) := fun j hj => by unfold bunL; rw [List.getElem?_map, List.getElem?_eq_getElem hj]; rfl
      obtain ⟨bs, hbs⟩ : ∃ bs, bunL R l = bs := ⟨_, rfl⟩
      have hbsl : bs.length = R.length := by rw [← hbs, bunL_len]
      rw [hbs] at HM0 hbl
      obtain ⟨pp, hpp⟩ : ∃ pp : Rd → Bool, (fun x => decide ((bundN l x : Int) < least)) = pp := ⟨_, rfl⟩
      have hpx := fun x => congrFun hpp x
      have HPP := Lib.hid hpp; have HBL := Lib.hid hbl; have HBSL := Lib.hid hbsl; have HPX := Lib.hid hpx
      have HK0 : Hid (∃ (f : Nat → Nat) (ag : Bool), sumN (fun x => x) N + 1 = sumN f N + (if ag = true then 1 else 0) ∧ Value.bool true = .bool ag ∧ Rlx (openE R pp) f ∧ (ag = false → ∀ e ∈ openE R pp, f e.1 = f e.2) ∧ ClsM w w2 B1 B2 qo N co (.slice AR R.length cR) (.slice AB R.length cB) R bs (natF f)) :=
        Lib.hid ⟨fun x => x, true, rfl, rfl, Rlx.start _, (fun h => by cases h), HM0.out⟩
      clear hbs hbsl hpp hbl hpx HM0 HBN HRD HLEN
      generalize sumN (fun x => x) N + 1 = k0 at *
      go_wp2
      go_loopg [12] k0 (fun k v wy => ∃ (f : Nat → Nat) (ag : Bool), k = sumN f N + (if ag = true then 1 else 0) ∧ v = .bool ag ∧ Rlx (openE R pp) f ∧ (ag = false → ∀ e ∈ openE R pp, f e.1 = f e.2) ∧ ClsM w wy B1 B2 qo N co (.slice AR R.length cR) (.slice AB R.length cB) R bs (natF f))
      case atStart => exact HK0.out
      case round =>
        clear HK0
        obtain ⟨f, ag, hk, rfl, hX, hag, hM⟩ := hrel
        have HXX := Lib.hid hX; have HAG := Lib.hid hag; have HM := Lib.hid hM; have HK := Lib.hid hk
        clear hX hag hM hk
        cases ag
        · have hrow : rowA N (natF f) = (lbI N (openE R pp)).map (Value.int .i64) := by
            have hlab := HXX.out.lab N (HAG.out rfl)
            unfold rowA lbI
            rw [List.map_map]
            exact List.map_congr_left fun x hx => by show Value.int .i64 ((f x : Nat) : Int) = Value.int .i64 _; rw [hlab.unique (lbF_lab (openE_in HOK.out pp)) (List.mem_range.1 hx)]
          have HROW := Lib.hid hrow
          clear hrow
          go_wp2
          go_ret
          refine ⟨_, rfl, ?_, HM.out.below⟩
          show World.ownsRow _ _ _ _ _ (lbI N (openE R fun x => decide ((bundN l x : Int) < least))).length _
          unfold borE
          rw [HPP.out, ← HROW.out, show (lbI N (openE R pp)).length = N by simp [lbI]]
          exact HM.out.out
        · have HS1 : Hid (∃ (f2 : Nat → Nat) (ag : Bool), Value.bool false = .bool ag ∧ Rlx (openE R pp) f2 ∧ (ag = false → f2 = f ∧ ∀ e ∈ openE (R.take 0) pp, f e.1 = f e.2) ∧ (ag = true → sumN f2 N < sumN f N) ∧ ClsM w wr B1 B2 qo N co (.slice AR R.length cR) (.slice AB R.length cB) R bs (natF f2)) :=
            Lib.hid ⟨f, false, rfl, HXX.out, (fun _ => ⟨rfl, fun e he => by cases he⟩), (fun h => by cases h), HM.out⟩
          clear HM HXX HAG
          go_wp2
          go_loopw [12, 13] (fun v i wz => ∃ (j : Nat) (f2 : Nat → Nat) (ag : Bool), j ≤ R.length ∧ i = .int .i64 j ∧ v = .bool ag ∧ Rlx (openE R pp) f2 ∧ (ag = false → f2 = f ∧ ∀ e ∈ openE (R.take j) pp, f e.1 = f e.2) ∧ (ag = true → sumN f2 N < sumN f N) ∧ ClsM w wz B1 B2 qo N co (.slice AR R.length cR) (.slice AB R.length cB) R bs (natF f2)) (fun _ i _ => R.length - (intOf i).toNat)
          case atStart =>
            obtain ⟨f2, ag, h1, h2, h3, h4, h5⟩ := HS1.out
            exact ⟨0, f2, ag, by omega, rfl, h1, h2, h3, h4, h5⟩
          case round =>
            clear HS1
            obtain ⟨j, f2, ag, hj, rfl, rfl, hX, hag0, hag1, hM⟩ := hrel
            have HXX := Lib.hid hX; have HA0 := Lib.hid hag0; have HA1 := Lib.hid hag1; have HM := Lib.hid hM
            clear hX hag0 hag1 hM
            by_cases hlt : j < R.length
            · obtain ⟨bd, e0, hbd, k0, k1, k2⟩ := roadI_cells (Reads.of_own HM.out.rd) hlt
              subst e0
              obtain ⟨a0, a1, b0, b1, hab, _, _⟩ := HOK.out _ (List.getElem_mem hlt)
              have hES := fun (g : Nat → Nat) h1 h2 => edges_step (f := g) (p := pp) hlt h1 h2
              have hEM := fun h => openE_mem (p := pp) hlt h
              have hpj := HPX.out R[j]
              have hbnc := HBL.out j hlt
              obtain ⟨bd2, e2, hbd2, hcb2⟩ := ReadI.at_ (k := j) (Reads.of_own HM.out.bn) (by rw [HBSL.out]; exact hlt)
              have hbv : bs[j]'(by rw [HBSL.out]; exact hlt) = ((bundN l R[j] : Nat) : Int) := by
                rw [List.getElem?_eq_getElem (by rw [HBSL.out]; exact hlt)] at hbnc
                injection hbnc
              rw [hbv] at hcb2
              subst e2
              obtain ⟨x, hx⟩ : ∃ x, R[j] = x := ⟨_, rfl⟩
              rw [hx] at k0 k1 k2 a0 a1 b0 b1 hab hES hEM hpj hcb2
              clear hx hbnc hbv
              obtain ⟨xa, xb, xl⟩ := x
              simp only at k0 k1 k2 a0 a1 b0 b1 hab hES hEM
              obtain ⟨a, rfl⟩ : ∃ k : Nat, xa = k := ⟨xa.toNat, by omega⟩
              obtain ⟨b, rfl⟩ : ∃ k : Nat, xb = k := ⟨xb.toNat, by omega⟩
              rw [Int.toNat_natCast, Int.toNat_natCast] at hES hEM
              have hak : a < N := by omega
              have hbk : b < N := by omega
              have hakI : (a : Int) < (N : Int) := by omega
              have hbkI : (b : Int) < (N : Int) := by omega
              have hltI : (j : Int) < (R.length : Int) := by omega
              have hca := HM.out.cell hak
              have hcb := HM.out.cell hbk
              try dsimp only at hpj hca hcb
              generalize bundN l ((a : Int), (b : Int), xl) = bn at *
              have HES := Lib.hid hES; have HEM := Lib.hid hEM
              clear hES hEM
              cases hp : pp ((a : Int), (b : Int), xl)
              · rw [hp] at hpj
                have HSTEP := Lib.hid (fun h1 => HES.out f h1 (fun h => by rw [hp] at h; cases h))
                clear hp
                go_wp2
                go_region
                go_wp2
                go_region
                go_wp2
                go_roundw
                case rel => exact ⟨j + 1, f2, ag, by omega, by go_num, rfl, HXX.out, fun h => ⟨(HA0.out h).1, HSTEP.out (HA0.out h).2⟩, HA1.out, HM.out.drew.drew⟩
                case measure => simp [intOf]; omega
              · rw [hp] at hpj
                have HPE := Lib.hid (HEM.out hp)
                clear hp
                by_cases hff : f2 a = f2 b
                · have hne : (((f2 a : Nat) : Int) != ((f2 b : Nat) : Int)) = false := by rw [hff]; simp
                  have HFF := Lib.hid hff
                  clear hff
                  go_wp2
                  go_region
                  go_wp2
                  go_region
                  go_wp2
                  go_roundw
                  case rel => exact ⟨j + 1, f2, ag, by omega, by go_num, rfl, HXX.out, fun h => ⟨(HA0.out h).1, HES.out f (HA0.out h).2 (fun _ => by have := (HA0.out h).1; rw [← this]; exact HFF.out)⟩, HA1.out, HM.out.drew.drew⟩
                  case measure => simp [intOf]; omega
                · have hne : (((f2 a : Nat) : Int) != ((f2 b : Nat) : Int)) = true := by rw [bne, beq_false_of_ne (by omega)]; rfl
                  have HLT := Lib.hid (meet_lt hak hbk hff)
                  have hmin : min ((f2 a : Nat) : Int) ((f2 b : Nat) : Int) = ((min (f2 a) (f2 b) : Nat) : Int) := by omega
                  have HX2 := Lib.hid (HXX.out.step HPE.out)
                  have HM1 := Lib.hid (HM.out.set_ hak ((min (f2 a) (f2 b) : Nat) : Int))
                  have HM2 : Hid (ClsM w _ B1 B2 qo N co (.slice (some bd) R.length cR) (.slice (some bd2) R.length cB) R bs (natF (meet f2 a b))) := Lib.hid (by have := HM1.out.set_ hbk ((min (f2 a) (f2 b) : Nat) : Int); rw [meet_set] at this; exact this)
                  have HSL : Hid (ag = true → sumN f2 N < sumN f N) := HA1
                  have HSM : Hid (sumN f2 N ≤ sumN f N) := Lib.hid (by
                    cases ag
                    · rw [(HA0.out rfl).1]; exact Nat.le_refl _
                    · exact Nat.le_of_lt (HA1.out rfl))
                  generalize min (f2 a) (f2 b) = mn at *
                  have hfa := HM.out.out.frozenAt a
                  have hfb := HM1.out.out.frozenAt b
                  have hma := HM1.out.cell hak
                  have hmb := HM1.out.cell hbk
                  rw [setF_same] at hma
                  clear hff
                  go_wp2
                  go_region
                  go_wp2
                  go_region
                  go_wp2
                  go_region
                  go_wp2
                  go_roundw
                  case rel => exact ⟨j + 1, meet f2 a b, true, by omega, by go_num, rfl, HX2.out, (fun h => by cases h), fun _ => Nat.lt_of_lt_of_le HLT.out HSM.out, HM2.out.drew.drew.drew⟩
                  case measure => simp [intOf]; omega
            · obtain rfl : j = R.length := by omega
              go_wp2
              go_roundg (sumN f2 N + (if ag = true then 1 else 0))
              case measure =>
                have hk := HK.out
                rw [if_pos (by simp)] at hk
                cases ag
                · rw [(HA0.out rfl).1, if_neg (by simp)]; omega
                · have := HA1.out rfl
                  rw [if_pos rfl]; omega
              case rel => exact ⟨f2, ag, rfl, rfl, HXX.out, fun h => by have h2 := HA0.out h; rw [h2.1]; have := h2.2; rwa [List.take_length] at this, HM.out⟩
end Go.Proofs.YtgimhjkijpcgjaaDoor
namespace Go.Proofs.YtgimhjkijpcgjaaDoor
open Go.RowKit Go.Lib

theorem bund_one (vs : List Int) (x : Rd) : decide ((bundN [vs] x : Int) < 1) = !cutB vs x := by
  unfold bundN
  cases h : cutB vs x
  · rw [List.filter_cons_of_neg (p := fun vs => cutB vs x) (by simp [h])]; simp
  · rw [List.filter_cons_of_pos (p := fun vs => cutB vs x) h]; simp
theorem bor_one (R : List Rd) (vs : List Int) : borE R [vs] 1 = regE R vs := by
  unfold borE regE
  congr 1
  funext x
  exact bund_one vs x
set_option maxRecDepth 20000 in
set_option maxHeartbeats 2000000 in
theorem refRegions_any (p : Option Addr) (om : Option Pts) (A : Option Addr) (n c : Nat) (vs : List Int) (w : World) (h : RefO w p om) (hG : NewO om) (hv : ReadI w w.heap.size A n vs) (hn : n ≤ c) (hc : c ≤ maxLen) :
    Calls Tryd.prog 16 #[.pointer p, .slice A n c] w (GivesE w (regV om vs) (chkN (lenO om) [vs])) := by
  have hb0 := (Below.refl _ w).alloc (Nat.le_refl _) (.cells #[.slice A n c] 26)
  have hck := fits_any p om (some ⟨w.heap.size, 0, none⟩) 1 1 [vs] _ (h.below hb0) (by rw [World.size_alloc]; exact readII_one w A n c vs hv hn hc) (by unfold maxLen; decide)
  have hcl := fun W (hW : Below w.heap.size w W) (hz : chkN (lenO om) [vs] = 0) => refClasses_any p om (some ⟨W.heap.size, 0, none⟩) 1 1 [vs] 1 (W.alloc (.cells #[.slice A n c] 26)) ((h.below hW).below ((Below.refl _ W).alloc (Nat.le_refl _) _)) hG (by rw [World.size_alloc]; exact readII_one W A n c vs (hv.later hW) hn hc) (by unfold maxLen; decide) hz
  have HB0 := Lib.hid hb0; have HCL := Lib.hid hcl
  clear h hG hv hb0 hcl
  unfold GivesE regV
  rw [← bor_one]
  generalize lenO om = N at *
  generalize roadsO om = R at *
  obtain ⟨E, hE⟩ : ∃ E, chkN N [vs] = E := ⟨_, rfl⟩
  rw [hE] at hck ⊢
  by_cases h0 : E = 0
  · rw [h0] at hE hck ⊢
    rw [if_pos rfl]
    have HE := Lib.hid hE
    clear hE h0
    go_enter Tryd.func16, Tryd.ntmps16
    go_wp2_with fail
    refine hck.mono ?_
    rintro e w1 ⟨rfl, hb1⟩
    have hB1 := HB0.out.trans (hb1.mono HB0.out.size)
    have hl := HCL.out w1 hB1 HE.out
    have HB1 := Lib.hid hB1
    clear hb1 hB1 hck
    go_wp2_with fail
    refine hl.mono ?_
    rintro e w4 ⟨v, rfl, ho, hb4⟩
    have HAL := Lib.hid (HB1.out.alloc HB1.out.size (.cells #[.slice A n c] 26))
    go_wp2
    go_ret2
    exact ⟨_, rfl, own_mono ho HAL.out.size, HAL.out.trans (hb4.mono HAL.out.size)⟩
  · rw [if_neg h0]
    have h0B : (E != 0) = true := by simp [h0]
    clear HCL hE
    go_enter Tryd.func16, Tryd.ntmps16
    go_wp2_with fail
    refine hck.mono ?_
    rintro e w1 ⟨rfl, hb1⟩
    go_wp2
    go_ret2
    exact ⟨_, rfl, World.ownsRow_nil _ _ _ _, HB0.out.trans (hb1.mono HB0.out.size)⟩
set_option maxRecDepth 20000 in
set_option maxHeartbeats 2000000 in
theorem refBorders_any (p : Option Addr) (om : Option Pts) (A : Option Addr) (m c : Nat) (l : List (List Int)) (least : Int) (w : World) (h : RefO w p om) (hG : NewO om) (hl : ReadII w w.heap.size A m l) (hm : m ≤ maxLen) :
    Calls Tryd.prog 27 #[.pointer p, .slice A m c, .int .i64 least] w (GivesE w (borV om l least) (chkN (lenO om) l)) := by
  have hck := fits_any p om A m c l w h hl hm
  have hcl := fun W (hW : Below w.heap.size w W) (hz : chkN (lenO om) l = 0) => refClasses_any p om A m c l least W (h.below hW) hG (hl.later hW) hm hz
  have HCL := Lib.hid hcl
  clear h hG hl hcl
  unfold GivesE borV
  generalize lenO om = N at *
  generalize roadsO om = R at *
  obtain ⟨E, hE⟩ : ∃ E, chkN N l = E := ⟨_, rfl⟩
  rw [hE] at hck ⊢
  by_cases h0 : E = 0
  · rw [h0] at hE hck ⊢
    rw [if_pos rfl]
    have HE := Lib.hid hE
    clear hE h0
    go_enter Tryd.func27, Tryd.ntmps27
    go_wp2_with fail
    refine hck.mono ?_
    rintro e w1 ⟨rfl, hb1⟩
    have hl := HCL.out w1 hb1 HE.out
    have HB1 := Lib.hid hb1
    clear hb1 hck
    go_wp2_with fail
    refine hl.mono ?_
    rintro e w4 ⟨v, rfl, ho, hb4⟩
    go_wp2
    go_ret2
    exact ⟨_, rfl, own_mono ho HB1.out.size, HB1.out.trans (hb4.mono HB1.out.size)⟩
  · rw [if_neg h0]
    have h0B : (E != 0) = true := by simp [h0]
    clear HCL hE
    go_enter Tryd.func27, Tryd.ntmps27
    go_wp2_with fail
    refine hck.mono ?_
    rintro e w1 ⟨rfl, hb1⟩
    go_wp2
    go_ret2
    exact ⟨_, rfl, World.ownsRow_nil _ _ _ _, hb1⟩
end Go.Proofs.YtgimhjkijpcgjaaDoor
