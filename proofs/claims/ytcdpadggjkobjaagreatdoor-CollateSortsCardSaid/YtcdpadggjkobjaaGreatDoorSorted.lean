/-
  layer 39: sorted, texts and Sort of the program. Conditions: an alphabet of New, or none.
-/
import Derived.Test.YtcdpadggjkobjaaGreatDoorEnts
namespace Go.Proofs.YtcdpadggjkobjaaGreatDoor
open Go.RowKit Go.Lib

theorem info_entry : (Tryz.prog.info? 60).map (fun i => (i.zero, i.size, i.bytes)) = some (some (.agg #[.slice none 0 0, .string ByteArray.empty]), 2, 40) := by kernel_rfl
theorem cells_two (w : World) (x y : Value) (t : TypeId) : ∀ j u, [x, y][j]? = some u → (w.alloc (.cells #[x, y] t)).cell? ((⟨w.heap.size, 0, none⟩ : Addr).add j) = some u := by
  intro j u hj
  have h : (w.alloc (.cells #[x, y] t)).cell? ⟨w.heap.size, j, none⟩ = #[x, y][j]? := cell_of_row _ _ j _ t (0, 0) (heap_alloc_new w _)
  match j, hj with
  | 0, hj => simp at hj; subst hj; rw [show (⟨w.heap.size, 0, none⟩ : Addr).add 0 = ⟨w.heap.size, 0, none⟩ from rfl, h]; rfl
  | 1, hj => simp at hj; subst hj; rw [show (⟨w.heap.size, 0, none⟩ : Addr).add 1 = ⟨w.heap.size, 1, none⟩ from rfl, h]; rfl
theorem cells_new (w : World) (cs : List Value) (t : TypeId) : ∀ j u, cs[j]? = some u → (w.alloc (.cells cs.toArray t)).cell? ((⟨w.heap.size, 0, none⟩ : Addr).add j) = some u := by
  intro j u hj
  have h : (w.alloc (.cells cs.toArray t)).cell? ⟨w.heap.size, j, none⟩ = cs.toArray[j]? := cell_of_row _ _ j _ t (0, 0) (heap_alloc_new w _)
  rw [add_at, h]
  simpa using hj
/-- What sorted hands back. -/
def SortPostW (w : World) (r : Int × List Ent) (e : Ending) (w' : World) : Prop :=
  ∃ A n c ds, e = .returned (.tuple #[.slice A n c, .int .i64 r.1]) ∧ entE ds = r.2 ∧ ReadE w' w'.heap.size A n ds ∧ n ≤ 256 ∧ Below w.heap.size w w'
theorem sortPost_none (w : World) (k : Int) (w' : World) (hb : Below w.heap.size w w') : SortPostW w (k, []) (.returned (.tuple #[.slice none 0 0, .int .i64 k])) w' :=
  ⟨none, 0, 0, [], rfl, rfl, ⟨⟨⟨by simp [cellsE], fun h => absurd h (Nat.lt_irrefl 0)⟩, fun h => absurd h (Nat.lt_irrefl 0)⟩, fun e he => by cases he⟩, by omega, hb⟩
theorem sortedN_any (A : Option Addr) (n c : Nat) (w : World) : Calls Tryz.prog 26 #[.pointer none, .slice A n c] w (SortPostW w (1, [])) := by
  have hm := madeN_any w
  go_enter Tryz.func26, Tryz.ntmps26
  go_wp2_with fail
  refine hm.mono ?_
  rintro e w' ⟨rfl, rfl⟩
  go_wp2
  go_ret2
  exact sortPost_none _ _ _ (Below.refl _ _)
set_option maxRecDepth 20000 in
set_option maxHeartbeats 2000000 in
theorem sorted_prg (g : Nat) (gs : List (List ByteArray)) (A : Option Addr) (n c : Nat) (ss : List ByteArray) (w : World) (hA : Alph w g gs) (hG : GoodG gs) (hr : ReadS w w.heap.size A n ss) (hn : n ≤ maxLen) :
    Calls Tryz.prog 26 #[.pointer (some ⟨g, 0, none⟩), .slice A n c] w (SortPostW w (sortRes gs ss)) := by
  have hm := made_any g gs w hA
  have HL := Lib.hid hr.len
  unfold maxLen at hn
  by_cases hbig : 256 < n
  · have hE : sortRes gs ss = (12, []) := sortRes_many (by rw [HL.out]; exact hbig)
    rw [hE]
    clear hE hr
    go_enter Tryz.func26, Tryz.ntmps26
    go_wp2_with fail
    refine hm.mono ?_
    rintro e w' ⟨rfl, rfl⟩
    go_wp2
    go_ret2
    exact sortPost_none _ _ _ (Below.refl _ _)
  · obtain ⟨i0, hi, hz0, hz1, hz2⟩ := info_parts info_entry
    have hk := fun (s : ByteArray) W (hb : Below w.heap.size w W) => (keyO_any (some ⟨g, 0, none⟩) (some gs) s W ((show AlphO w (some ⟨g, 0, none⟩) (some gs) from ⟨g, rfl, hA, hG⟩).below hb)).mono fun _ _ h => h.formO
    have HK := Lib.hid hk
    clear hk hA hG
    have hn256 : n ≤ 256 := by omega
    go_enter Tryz.func26, Tryz.ntmps26
    go_wp2_with fail
    refine hm.mono ?_
    rintro e w' ⟨rfl, rfl⟩
    go_wp2_with fail
    clear hm
    go_loopw [6, 19] (fun v i wr => ∃ (k : Nat) (ds : List EV), k ≤ n ∧ i = .int .i64 k ∧ OwnE wr w.heap.size v ds ∧ ds.length = k ∧ entE ds = entsL gs (ss.take k) ∧ errL gs (ss.take k) = 0 ∧ Below w.heap.size w wr) (fun _ i _ => n - (intOf i).toNat)
    case atStart => exact ⟨0, [], by omega, rfl, OwnE.nil_ _ _, rfl, rfl, rfl, Below.refl _ _⟩
    case round =>
      obtain ⟨k, ds, hk, rfl, hown, hdk, hent, herr, hb⟩ := hrel
      by_cases hlt : k < n
      · have hkl : k < ss.length := by rw [HL.out]; exact hlt
        obtain ⟨ad, rfl, had, hcx⟩ := ReadS.at_ (k := k) (Reads.below hr hb) hkl
        have hes := errL_succ hkl herr
        have hts := entsL_take_succ (gs := gs) hkl
        have hst : errL gs (ss.take (k + 1)) ≠ 0 → errL gs ss = errL gs (ss.take (k + 1)) := errL_stop
        rw [hes] at hst
        have hky := HK.out ss[k] wr hb
        rw [show readResO (some gs) ss[k] = readRes gs ss[k] from rfl] at hky
        generalize ss[k] = x at hcx hes hts hst hky
        generalize readRes gs x = r at hes hts hst hky
        have HES := Lib.hid hes; have HTS := Lib.hid hts; have HST := Lib.hid hst; have HENT := Lib.hid hent; have HERR := Lib.hid herr; have HDK := Lib.hid hdk
        clear hes hts hst hent herr hdk
        go_wp2_with fail
        refine hky.mono ?_
        rintro e w1 ⟨A1, n1, c1, rfl, ho1, hn1, hb1⟩
        have hown1 := hown.below hb1
        have ho1' := own_mono ho1 hb.size
        have hb01 := hb.trans (hb1.mono hb.size)
        clear hown ho1 hky
        by_cases hz : r.1 = 0
        · have hzb : (r.1 != 0) = false := by rw [hz]; rfl
          have HZ := Lib.hid hz; clear hz
          have hrow := hown1.1
          have hlen : ds.length + 1 ≤ 257 := by rw [HDK.out]; omega
          go_wp2_with (at_builtin; refine wpList_append_own _ rfl _ _ 64 rfl w.heap.size 60 i0 (.agg #[.slice none 0 0, .string ByteArray.empty]) 2 40 Tryz.underlying64 hi hz0 hz1 hz2 rfl (by decide) _ _ _ rfl (hrow.alloc _) ⟨w1.heap.size, 0, none⟩ 1 1 [.slice A1 n1 c1, .string x] rfl rfl (cells_two _ _ _ _) (by simp [Value.oneCell']) (by unfold maxLen; omega) (by omega) (by have := hb01.size; simp; omega) ?_; intro v' w2 hown' hgrow hx; clear hx)
          have hb2 : Below w.heap.size w w2 := (hb01.alloc hb01.size _).grown hgrow (by have := hb01.size; simp; omega) (fun g hg => (hrow.lt g hg).1)
          have hp := (hown1.below ((Below.refl _ w1).alloc (Nat.le_refl _) (.cells #[.slice A1 n1 c1, .string x] 60))).push (e := ⟨A1, n1, c1, keyS r.2, x⟩) (own_below ho1' ((Below.refl _ w1).alloc (Nat.le_refl _) _)) hn1 hgrow hown'
          clear hgrow hrow hown' hown1
          go_roundw
          case rel =>
            refine ⟨k + 1, ds ++ [⟨A1, n1, c1, keyS r.2, x⟩], by omega, by go_num, hp, by rw [List.length_append, List.length_singleton, HDK.out], ?_, ?_, hb2⟩
            · rw [HTS.out, entE_snoc, HENT.out]; rfl
            · rw [HES.out]; exact HZ.out
          case measure => simp [intOf]; omega
        · have hzb : (r.1 != 0) = true := by rw [bne_iff_ne]; exact hz
          have hE : sortRes gs ss = (r.1, []) := by
            have := HST.out hz
            rw [sortRes_bad (by rw [HL.out]; exact hn256) (by rw [this]; exact hz), this]
          have HE := Lib.hid hE
          clear hz hE
          go_wp2
          go_ret2
          rw [HE.out]
          exact sortPost_none _ _ _ hb01
      · obtain rfl : k = n := by omega
        have hts : ss.take k = ss := List.take_of_length_le (by rw [HL.out]; exact Nat.le_refl _)
        rw [hts] at hent herr
        have hE : sortRes gs ss = (0, sortE (entE ds)) := by rw [sortRes_ok (by rw [HL.out]; exact hn256) herr, hent]
        obtain ⟨A1, c1, rfl, hc1, hc2⟩ := ownsRow_form hown.1
        rw [hdk] at hown
        have hsf := sortFunc_any A1 k c1 w.heap.size ds wr hown hdk (by omega) hb.size
        have HE := Lib.hid hE; have HDK := Lib.hid hdk
        clear hE hdk hent herr hts
        rw [HDK.out]
        go_wp2_with fail
        refine hsf.mono ?_
        rintro e w1 ⟨rfl, ⟨ds', hd1, hd2⟩, hb1⟩
        have HD1 := Lib.hid hd1; clear hd1 hsf
        go_wp2
        go_ret2
        rw [HE.out]
        exact ⟨A1, k, c1, ds', rfl, HD1.out, hd2, hn256, hb.trans hb1⟩
theorem sortedO_any (p : Option Addr) (og : Option (List (List ByteArray))) (A : Option Addr) (n c : Nat) (ss : List ByteArray) (w : World) (hA : AlphO w p og) (hr : ReadS w w.heap.size A n ss) (hn : n ≤ maxLen) :
    Calls Tryz.prog 26 #[.pointer p, .slice A n c] w (SortPostW w (sortResO og ss)) := by
  cases og with
  | none => obtain rfl : p = none := hA; exact sortedN_any A n c w
  | some gs => obtain ⟨g, rfl, h1, h2⟩ := hA; exact sorted_prg g gs A n c ss w h1 h2 hr hn
end Go.Proofs.YtcdpadggjkobjaaGreatDoor
namespace Go.Proofs.YtcdpadggjkobjaaGreatDoor
open Go.RowKit Go.Lib

theorem take_filter {α : Type} (p : α → Bool) (l : List α) {k : Nat} (hk : k < l.length) : (l.take (k + 1)).filter p = (l.take k).filter p ++ if p l[k] then [l[k]] else [] := by
  rw [List.take_succ_eq_append_getElem hk, List.filter_append]
  cases h : p l[k] <;> simp [h]
theorem entE_get {ds : List EV} {k : Nat} (hk : k < ds.length) : (entE ds)[k]'(by simpa [entE] using hk) = ds[k].ent := by simp [entE]
set_option maxRecDepth 20000 in
set_option maxHeartbeats 2000000 in
theorem texts_any (A : Option Addr) (n c : Nat) (ds : List EV) (g : Nat) (cb : Array Value) (p : Ent → Bool) (w : World) (hr : ReadE w w.heap.size A n ds) (hn : n ≤ 256)
    (eg : ∀ args W, (callFunc g args).run Tryz.prog W = .ok (.enter g args) W)
    (hg : ∀ W (e : EV), Below w.heap.size w W → e ∈ ds → Calls Tryz.prog g (#[.agg #[.slice e.A e.n e.c, .string e.text]] ++ cb) W fun r W' => r = .returned (.bool (p e.ent)) ∧ Below W.heap.size W W') :
    Calls Tryz.prog 27 #[.slice A n c, .func (.func g) #[] cb] w (GivesS w (textsE ((entE ds).filter p))) := by
  obtain ⟨i0, hi, hz0, hz1, hz2⟩ := info_parts info_string
  have HL := Lib.hid hr.len
  have HG := Lib.hid hg
  clear hg
  go_enter Tryz.func27, Tryz.ntmps27
  go_wp2
  go_loopw [5, 10] (fun v i wr => ∃ (k : Nat) (l : List ByteArray), k ≤ n ∧ i = .int .i64 k ∧ wr.ownsRow w.heap.size 9 1 v l.length (strs l) ∧ l = textsE (((entE ds).take k).filter p) ∧ l.length ≤ k ∧ Below w.heap.size w wr) (fun _ i _ => n - (intOf i).toNat)
  case atStart => exact ⟨0, [], by omega, rfl, World.ownsRow_nil _ _ _ _, rfl, Nat.le_refl _, Below.refl _ _⟩
  case round =>
    obtain ⟨k, l, hk, rfl, hown, hl, hlk, hb⟩ := hrel
    by_cases hlt : k < n
    · have hkl : k < ds.length := by rw [HL.out]; exact hlt
      obtain ⟨g0, rfl, had, hc0, hc1, hkey, hkn⟩ := (hr.below hb).at_ (k := k) hkl
      have hf := take_filter p (entE ds) (k := k) (by simpa [entE] using hkl)
      rw [entE_get hkl] at hf
      have hcall := HG.out
      have hmem : ds[k] ∈ ds := List.getElem_mem hkl
      generalize ds[k] = x at hc0 hc1 hkey hkn hf hmem
      have HF := Lib.hid hf; have HLL := Lib.hid hl; have HM := Lib.hid hmem
      clear hf hl hcall hmem
      have hbx : Below w.heap.size w (wr.alloc (.cells #[.slice x.A x.n x.c, .string x.text] 60)) := hb.alloc hb.size _
      have hcl := HG.out _ x hbx HM.out
      generalize hpx : p x.ent = b at hcl HF
      have HPX := Lib.hid hpx; clear hpx hbx
      go_wp2_with fail
      refine hcl.mono ?_
      rintro e w1 ⟨rfl, hb1⟩
      have hown1 := own_below (hown.alloc (.cells #[.slice x.A x.n x.c, .string x.text] 60)) hb1
      have hbx1 := (hb.alloc hb.size (.cells #[.slice x.A x.n x.c, .string x.text] 60)).trans (hb1.mono (by have := hb.size; simp; omega))
      have q0 := ((Blk.new wr 60 #[.slice x.A x.n x.c, .string x.text]).below hb1 (by simp)).cell 1
      simp only [List.getElem?_toArray, List.getElem?_cons_zero, List.getElem?_cons_succ] at q0
      clear hown hc0 hc1 hkey hcl
      cases b
      · go_wp2
        go_roundw
        case rel =>
          refine ⟨k + 1, l, by omega, by go_num, hown1, ?_, by omega, hbx1⟩
          rw [HF.out, HLL.out]
          simp
        case measure => simp [intOf]; omega
      · go_wp2_with (at_builtin; refine wpList_append_own _ rfl _ _ 22 rfl w.heap.size 9 i0 (.string ByteArray.empty) 1 16 Tryz.underlying22 hi hz0 hz1 hz2 rfl (by decide) _ _ _ rfl (hown1.alloc _) ⟨w1.heap.size, 0, none⟩ 1 1 [.string x.text] rfl rfl (cell_one_new _ _ _) (by simp [Value.oneCell']) (by unfold maxLen; omega) (by omega) (by have := hbx1.size; simp; omega) ?_; intro v' w2 hown' hgrow hx; clear hx)
        have hb2 : Below w.heap.size w w2 := (hbx1.alloc hbx1.size _).grown hgrow (by have := hbx1.size; simp; omega) (fun g hg => (hown1.lt g hg).1)
        clear hgrow hown1
        go_roundw
        case rel =>
          refine ⟨k + 1, l ++ [x.text], by omega, by go_num, by simpa using hown', ?_, by simp; omega, hb2⟩
          rw [HF.out, HLL.out]
          simp [textsE, EV.ent]
        case measure => simp [intOf]; omega
    · obtain rfl : k = n := by omega
      have hts : (entE ds).take k = entE ds := List.take_of_length_le (by simp [entE, HL.out])
      rw [hts] at hl
      subst hl
      go_wp2
      go_ret
      exact ⟨_, rfl, hown, hb⟩
end Go.Proofs.YtcdpadggjkobjaaGreatDoor
namespace Go.Proofs.YtcdpadggjkobjaaGreatDoor
open Go.RowKit Go.Lib

theorem betw_filter (x y : Ent) (es : List Ent) : betw x y es = es.filter fun z => decide (befE x z ≤ 0) && decide (befE z y ≤ 0) := rfl
theorem all_any (e : EV) (W : World) : Calls Tryz.prog 28 #[.agg #[.slice e.A e.n e.c, .string e.text]] W fun r W' => r = .returned (.bool true) ∧ Below W.heap.size W W' := by
  go_enter Tryz.func28, Tryz.ntmps28
  go_wp2
  go_ret
  exact ⟨rfl, (Below.refl _ _).alloc (Nat.le_refl _) _⟩
set_option maxRecDepth 20000 in
set_option maxHeartbeats 1000000 in
theorem between1_any (bx bx' : Nat) (x y z : EV) (W : World) (h1 : Blk W bx 60 #[.slice x.A x.n x.c, .string x.text]) (h2 : Blk W bx' 60 #[.slice y.A y.n y.c, .string y.text])
    (hx : ReadI W W.heap.size x.A x.n x.key) (hy : ReadI W W.heap.size y.A y.n y.key) (hz : ReadI W W.heap.size z.A z.n z.key) (hxn : x.n ≤ maxLen) (hyn : y.n ≤ maxLen) (hzn : z.n ≤ maxLen) :
    Calls Tryz.prog 34 #[.agg #[.slice z.A z.n z.c, .string z.text], .pointer (some ⟨bx, 0, none⟩), .pointer (some ⟨bx', 0, none⟩)] W fun r W' => r = .returned (.bool (decide (befE x.ent z.ent ≤ 0) && decide (befE z.ent y.ent ≤ 0))) ∧ Below W.heap.size W W' := by
  have c1 := fun V (hb : Below W.heap.size W V) => before_any x.A z.A x.n z.n x.c z.c x.key z.key x.text z.text V ((hx.below hb).more hb.size) ((hz.below hb).more hb.size) hxn hzn
  have c2 := fun V (hb : Below W.heap.size W V) => before_any z.A y.A z.n y.n z.c y.c z.key y.key z.text y.text V ((hz.below hb).more hb.size) ((hy.below hb).more hb.size) hzn hyn
  rw [show beforeV x.key z.key x.text z.text = befE x.ent z.ent from rfl] at c1
  rw [show beforeV z.key y.key z.text y.text = befE z.ent y.ent from rfl] at c2
  generalize befE x.ent z.ent = u at c1 ⊢
  generalize befE z.ent y.ent = v at c2 ⊢
  have C1 := Lib.hid c1; have C2 := Lib.hid c2
  clear c1 c2 hx hy hz hxn hyn hzn
  have hl1 := h1.lt; have hl2 := h2.lt
  have b0 : Below W.heap.size W (W.alloc (.cells #[.slice z.A z.n z.c, .string z.text] 60)) := (Below.refl _ _).alloc (Nat.le_refl _) _
  have e0 := (h1.alloc (.cells #[.slice z.A z.n z.c, .string z.text] 60)).cell 0
  have e1 := (h1.alloc (.cells #[.slice z.A z.n z.c, .string z.text] 60)).cell 1
  simp only [List.getElem?_toArray, List.getElem?_cons_zero, List.getElem?_cons_succ] at e0 e1
  by_cases hu : u ≤ 0
  · go_enter Tryz.func34, Tryz.ntmps34
    go_wp2_with fail
    refine (C1.out _ b0).mono ?_
    rintro r w1 ⟨rfl, hb1⟩
    have b1 := b0.trans (hb1.mono (by simp))
    have f0 := (h2.below b1 hl2).cell 0
    have f1 := (h2.below b1 hl2).cell 1
    simp only [List.getElem?_toArray, List.getElem?_cons_zero, List.getElem?_cons_succ] at f0 f1
    have g0 := ((Blk.new W 60 #[.slice z.A z.n z.c, .string z.text]).below hb1 (by simp)).cell 0
    have g1 := ((Blk.new W 60 #[.slice z.A z.n z.c, .string z.text]).below hb1 (by simp)).cell 1
    simp only [List.getElem?_toArray, List.getElem?_cons_zero, List.getElem?_cons_succ] at g0 g1
    go_wp2_with fail
    refine (C2.out _ b1).mono ?_
    rintro r w2 ⟨rfl, hb2⟩
    go_wp2
    go_ret
    exact ⟨by simp [hu], b1.trans (hb2.mono b1.size)⟩
  · go_enter Tryz.func34, Tryz.ntmps34
    go_wp2_with fail
    refine (C1.out _ b0).mono ?_
    rintro r w1 ⟨rfl, hb1⟩
    go_wp2
    go_ret
    exact ⟨by rw [decide_eq_false (show ¬ u ≤ 0 by omega)]; rfl, b0.trans (hb1.mono (by simp))⟩

set_option maxRecDepth 20000 in
set_option maxHeartbeats 1000000 in
theorem sort_any (p : Option Addr) (og : Option (List (List ByteArray))) (A : Option Addr) (n c : Nat) (ss : List ByteArray) (w : World) (hA : AlphO w p og) (hr : ReadS w w.heap.size A n ss) (hn : n ≤ maxLen) :
    Calls Tryz.prog 9 #[.pointer p, .slice A n c] w (TextsPost w (sortedT (sortResO og ss))) := by
  have h := sortedO_any p og A n c ss w hA hr hn
  have herr := sortResO_err (og := og) (l := ss)
  generalize sortResO og ss = r at h herr ⊢
  have HERR := Lib.hid herr; clear herr
  by_cases hz : r.1 = 0
  · have hzb : (r.1 != 0) = false := by rw [hz]; rfl
    have HZ := Lib.hid hz; clear hz
    go_enter Tryz.func9, Tryz.ntmps9
    go_wp2_with fail
    refine h.mono ?_
    rintro e w1 ⟨A1, n1, c1, ds, rfl, hd, hR, hn1, hb1⟩
    have ht := texts_any A1 n1 c1 ds 28 #[] (fun _ => true) w1 hR hn1 (fun args W => enters_of Tryz.func28 (by kernel_rfl) rfl args W) (fun W e _ _ => all_any e W)
    rw [List.filter_eq_self.2 (fun _ _ => rfl), hd] at ht
    have HD := Lib.hid hd; clear hd hR h
    go_wp2_with fail
    refine ht.mono ?_
    rintro e w2 ⟨v, rfl, ho, hb2⟩
    obtain ⟨A2, c2, rfl, _, _⟩ := ownsRow_form ho
    go_wp2
    go_ret2
    exact ⟨_, by unfold sortedT; rw [HZ.out]; rfl, own_mono ho hb1.size, hb1.trans (hb2.mono hb1.size)⟩
  · have hzb : (r.1 != 0) = true := by rw [bne_iff_ne]; exact hz
    have hr2 := HERR.out hz
    have HR2 := Lib.hid hr2
    clear hz hr2
    go_enter Tryz.func9, Tryz.ntmps9
    go_wp2_with fail
    refine h.mono ?_
    rintro e w1 ⟨A1, n1, c1, ds, rfl, hd, hR, hn1, hb1⟩
    clear hd
    go_wp2
    go_ret2
    unfold sortedT
    rw [HR2.out]
    exact textsPost_none _ _ _ hb1
set_option maxRecDepth 20000 in
set_option maxHeartbeats 2000000 in
theorem between_any (p : Option Addr) (og : Option (List (List ByteArray))) (A : Option Addr) (n c : Nat) (ss : List ByteArray) (s t : ByteArray) (w : World) (hA : AlphO w p og) (hr : ReadS w w.heap.size A n ss) (hn : n ≤ maxLen) :
    Calls Tryz.prog 17 #[.pointer p, .slice A n c, .string s, .string t] w (TextsPost w (betwRes (sortResO og ss) (readResO og s) (readResO og t) s t)) := by
  have h := sortedO_any p og A n c ss w hA hr hn
  have htw := fun W (hb : Below w.heap.size w W) => two_any p og s t W (hA.below hb)
  have herr := sortResO_err (og := og) (l := ss)
  generalize sortResO og ss = r at h herr ⊢
  generalize readResO og s = r1 at htw ⊢
  generalize readResO og t = r2 at htw ⊢
  have HERR := Lib.hid herr; have HTW := Lib.hid htw
  clear herr htw hA hr hn
  by_cases hz : r.1 = 0
  · have hzb : (r.1 != 0) = false := by rw [hz]; rfl
    by_cases he : errTwo r1 r2 = 0
    · have hO := betwRes_ok (s := s) (t := t) hz he
      rw [hO]
      have HZ := Lib.hid hz; have HE := Lib.hid he
      clear hz he hO
      go_enter Tryz.func17, Tryz.ntmps17
      go_wp2_with fail
      refine h.mono ?_
      rintro e w1 ⟨A1, n1, c1, ds, rfl, hd, hR, hn1, hb1⟩
      have HD := Lib.hid hd
      clear h hd
      go_wp2_with fail
      refine (HTW.out _ hb1).mono ?_
      rintro e w2 ⟨A2, B2, n2, m2, c2, d2, xs, ys, s', t', rfl, hx, hy, hxn, hyn, hb2, hk⟩
      rw [HE.out]
      obtain ⟨rfl, rfl, rfl, rfl⟩ := hk HE.out
      clear hk HTW
      have hR2 := hR.below hb2
      have hb02 := hb1.trans (hb2.mono hb1.size)
      generalize hkx : keyS r1.2 = kx at hx
      generalize hky : keyS r2.2 = ky at hy
      obtain ⟨W3, hW3⟩ : ∃ W3, (w2.alloc (.cells #[.slice A2 n2 c2, .string s'] 60)).alloc (.cells #[.slice B2 m2 d2, .string t'] 60) = W3 := ⟨_, rfl⟩
      have hbW : Below w2.heap.size w2 W3 := by rw [← hW3]; exact ((Below.refl _ w2).alloc (Nat.le_refl _) _).alloc (by simp) _
      have q1 : Blk W3 w2.heap.size 60 #[.slice A2 n2 c2, .string s'] := by rw [← hW3]; exact (Blk.new w2 _ _).alloc _
      have q2 : Blk W3 (w2.heap.size + 1) 60 #[.slice B2 m2 d2, .string t'] := by
        rw [← hW3]
        have := Blk.new (w2.alloc (.cells #[.slice A2 n2 c2, .string s'] 60)) 60 #[.slice B2 m2 d2, .string t']
        rwa [World.size_alloc] at this
      have hR3 := (hR2.more hb2.size).below hbW
      have HKX := Lib.hid hkx; have HKY := Lib.hid hky; have HW3 := Lib.hid hW3; have HR3 := Lib.hid hR3
      clear hkx hky hW3 hR hR2 hR3
      have ht := texts_any A1 n1 c1 ds 34 #[.pointer (some ⟨w2.heap.size, 0, none⟩), .pointer (some ⟨w2.heap.size + 1, 0, none⟩)] (fun z => decide (befE (kx, s') z ≤ 0) && decide (befE z (ky, t') ≤ 0)) W3 (HR3.out.more hbW.size) hn1 (fun args W => enters_of Tryz.func34 (by kernel_rfl) rfl args W)
        (fun W e hb he => between1_any _ _ ⟨A2, n2, c2, kx, s'⟩ ⟨B2, m2, d2, ky, t'⟩ e W (q1.below hb q1.lt) (q2.below hb q2.lt) (((hx.below hbW).more hbW.size |>.below hb).more hb.size) (((hy.below hbW).more hbW.size |>.below hb).more hb.size) (((HR3.out.2 e he).1.more hbW.size |>.below hb).more hb.size) hxn hyn (HR3.out.2 e he).2)
      rw [HD.out] at ht
      have HT := Lib.hid ht
      clear ht hx hy q1 q2 HR3
      go_wp2_with fail
      rw [HW3.out]
      refine HT.out.mono ?_
      rintro e w4 ⟨v, rfl, ho, hb4⟩
      obtain ⟨A4, c4, rfl, _, _⟩ := ownsRow_form ho
      have hb03 := hb02.trans (hbW.mono hb02.size)
      go_wp2
      go_ret2
      refine ⟨_, rfl, ?_, hb03.trans (hb4.mono hb03.size)⟩
      rw [HKX.out, HKY.out]
      exact own_mono ho hb03.size
    · have hO := betwRes_no (s := s) (t := t) hz he
      rw [hO]
      have heb : (errTwo r1 r2 != 0) = true := by rw [bne_iff_ne]; exact he
      have HZ := Lib.hid hz
      clear hz he hO
      go_enter Tryz.func17, Tryz.ntmps17
      go_wp2_with fail
      refine h.mono ?_
      rintro e w1 ⟨A1, n1, c1, ds, rfl, hd, hR, hn1, hb1⟩
      clear h hd hR
      go_wp2_with fail
      refine (HTW.out _ hb1).mono ?_
      rintro e w2 ⟨A2, B2, n2, m2, c2, d2, xs, ys, s', t', rfl, hx, hy, hxn, hyn, hb2, hk⟩
      clear hk HTW hx hy
      have hb02 := hb1.trans (hb2.mono hb1.size)
      go_wp2
      go_ret2
      exact textsPost_none _ _ _ ((hb02.alloc hb02.size _).alloc (by have := hb02.size; simp; omega) _)
  · have hO := betwRes_bad (r1 := r1) (r2 := r2) (s := s) (t := t) hz
    rw [hO]
    have hzb : (r.1 != 0) = true := by rw [bne_iff_ne]; exact hz
    clear hz hO HERR
    go_enter Tryz.func17, Tryz.ntmps17
    go_wp2_with fail
    refine h.mono ?_
    rintro e w1 ⟨A1, n1, c1, ds, rfl, hd, hR, hn1, hb1⟩
    clear hd hR
    go_wp2
    go_ret2
    exact textsPost_none _ _ _ hb1
end Go.Proofs.YtcdpadggjkobjaaGreatDoor
