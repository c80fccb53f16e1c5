/-
  layer 39: the reference's Sort. Conditions: an alphabet of the reference's New, or none.
-/
import Derived.Test.YtcdpadggjkobjaaDoorSortP
import Derived.Test.YtcdpadggjkobjaaDoorRefOrd
import Derived.WalkLawsBesides
import Derived.BigQuiet
import Derived.Deep.QuietTactic
import Derived.OneCell
namespace Go.Proofs.YtcdpadggjkobjaaDoor
open Go.RowKit Go.Lib

theorem info_bool : (Tryd.prog.info? 4).map (fun i => (i.zero, i.size, i.bytes)) = some (some (.bool false), 1, 1) := by kernel_rfl
theorem info_intsS : (Tryd.prog.info? 32).map (fun i => (i.zero, i.size, i.bytes)) = some (some (.slice none 0 0), 1, 24) := by kernel_rfl
abbrev bools (l : List Bool) : List Value := l.map Value.bool
def sliceN : Value → Nat
  | .slice _ n _ => n
  | _ => 0
abbrev keyM (es : List Ent) : List (List Value) := es.map fun e => ints e.1
theorem refSortN_any (A : Option Addr) (n c : Nat) (w : World) : Calls Tryd.prog 38 #[.pointer none, .slice A n c] w (TextsPost w (1, [])) := by
  have hm := refmadeN_any w
  go_enter Tryd.func38, Tryd.ntmps38
  go_wp2_with fail
  refine hm.mono ?_
  rintro e w' ⟨rfl, rfl⟩
  go_wp2
  go_ret2
  exact ⟨_, rfl, World.ownsRow_nil _ _ _ _, Below.refl _ _⟩
theorem quietly_of {f : FuncId} {args : Array Value} {w : World} {n : Nat} {v : Value} (h : Calls Tryd.prog f args (w.drewN n) (Quietly (w.drewN n) v)) :
    Calls Tryd.prog f args (w.drewN n) fun e w'' => e = .returned v ∧ ∃ m, w'' = w.drewN m := Calls.quiet_of h
theorem bytesLess_eq (x y : ByteArray) : Op.bytesLess x.toList y.toList = decide (Lib.compareBytes (bl x) (bl y) = -1) := by
  rw [Lib.toList_data, Lib.toList_data]; exact cmpB_less _ _
theorem cell_one_at (w : World) (x : Value) (t : TypeId) (b : Nat) (h : b = w.heap.size) : ∀ j u, [x][j]? = some u → (w.alloc (.cells #[x] t)).cell? ((⟨b, 0, none⟩ : Addr).add j) = some u := by
  subst h; exact cell_one_new w x t
theorem own_heap {w : World} {base g n cap size : Nat} {e : TypeId} {xs : List Value} (h : w.ownsRow base e size (.slice (some ⟨g, 0, none⟩) n cap) n xs) : ∃ cur, w.heap[g]? = some (.cells cur e (0, 0)) := by
  rcases h.2 with ⟨h', _⟩ | ⟨g', cap', cur, h', _, hg, _⟩
  · simp at h'
  · simp only [Value.slice.injEq, Option.some.injEq, Addr.mk.injEq, and_true, true_and] at h'
    obtain ⟨rfl, rfl⟩ := h'
    exact ⟨cur, hg⟩
theorem ownM_kept {w w' : World} {base : Nat} {e1 e0 e : TypeId} {v u : Value} {gs : List (List Value)} {size n : Nat} {xs : List Value} (h : OwnM w base e1 e0 v gs) (hg : w.grownBy w' u.ownBlock) (hu : w.ownsRow base e size u n xs) (h1 : e1 ≠ e) (h0 : e0 ≠ e) : OwnM w' base e1 e0 v gs := by
  obtain ⟨vs, h1', h2, h3⟩ := h
  refine ⟨vs, h1'.kept hg (own_own_ne h1' hu h1), h2, fun k hk => ?_⟩
  obtain ⟨x, hx, ho⟩ := h3 k hk
  exact ⟨x, hx, ho.kept hg (own_own_ne ho hu h0)⟩
set_option maxRecDepth 100000 in
set_option maxHeartbeats 4000000 in
theorem refSort_prg (g : Nat) (gs : List (List ByteArray)) (A : Option Addr) (n c : Nat) (ss : List ByteArray) (w : World) (hA : RefAlph w g gs) (hG : SmallG gs) (hr : ReadS w w.heap.size A n ss) (hn : n ≤ maxLen) (hs : ∀ s ∈ ss, s.size ≤ maxLen) :
    Calls Tryd.prog 38 #[.pointer (some ⟨g, 0, none⟩), .slice A n c] w (TextsPost w (sortedT (sortRes gs ss))) := by
  have hm := refmade_any g gs w hA
  have HL := Lib.hid hr.len
  unfold maxLen at hn
  by_cases hbig : 256 < n
  · have hE : sortRes gs ss = (12, []) := sortRes_many (by rw [HL.out]; exact hbig)
    rw [hE]
    clear hE hr
    go_enter Tryd.func38, Tryd.ntmps38
    go_wp2_with fail
    refine hm.mono ?_
    rintro e w' ⟨rfl, rfl⟩
    go_wp2
    go_ret2
    exact ⟨_, rfl, World.ownsRow_nil _ _ _ _, Below.refl _ _⟩
  · obtain ⟨i0, hi, hz0, hz1, hz2⟩ := info_parts info_string
    obtain ⟨i1, hi1, hy0, hy1, hy2⟩ := info_parts info_intsS
    obtain ⟨i2, hi2, hx0, hx1, hx2⟩ := info_parts info_bool
    have hk := fun (s : ByteArray) W (hb : Below w.heap.size w W) (hs : s.size ≤ maxLen) => (refKeyO_any (some ⟨g, 0, none⟩) (some gs) s W ((show RefO w (some ⟨g, 0, none⟩) (some gs) from ⟨g, rfl, hA⟩).below hb) hG hs).mono fun _ _ h => h.formO
    have HK := Lib.hid hk; have HSS := Lib.hid hs
    clear hk hA hG hs
    have hn256 : n ≤ 256 := by omega
    go_enter Tryd.func38, Tryd.ntmps38
    go_wp2_with fail
    refine hm.mono ?_
    rintro e w' ⟨rfl, rfl⟩
    go_wp2_with fail
    clear hm
    go_loopw [6, 7] (fun v i wr => ∃ (k : Nat), k ≤ n ∧ i = .int .i64 k ∧ OwnM wr w.heap.size 32 3 v (keyM (entsL gs (ss.take k))) ∧ errL gs (ss.take k) = 0 ∧ Below w.heap.size w wr) (fun _ i _ => n - (intOf i).toNat)
    case atStart => exact ⟨0, by omega, rfl, OwnM.nil_ _ _ _ _, rfl, Below.refl _ _⟩
    case round =>
      obtain ⟨k, hk, rfl, hown, herr, hb⟩ := hrel
      by_cases hlt : k < n
      · have hkl : k < ss.length := by rw [HL.out]; exact hlt
        obtain ⟨ad, rfl, had, hcx⟩ := ReadS.at_ (k := k) (Reads.below hr hb) hkl
        have hes := errL_succ hkl herr
        have hts := entsL_take_succ (gs := gs) hkl
        have hst : errL gs (ss.take (k + 1)) ≠ 0 → errL gs ss = errL gs (ss.take (k + 1)) := errL_stop
        rw [hes] at hst
        have hky := HK.out ss[k] wr hb (HSS.out _ (List.getElem_mem hkl))
        rw [show readResO (some gs) ss[k] = readRes gs ss[k] from rfl] at hky
        have hlk : (entsL gs (ss.take k)).length = k := by rw [entsL_length, List.length_take]; omega
        generalize ss[k] = x at hcx hes hts hst hky
        generalize readRes gs x = r at hes hts hst hky
        generalize entsL gs (ss.take k) = es0 at hown hts hlk
        have HES := Lib.hid hes; have HTS := Lib.hid hts; have HST := Lib.hid hst; have HERR := Lib.hid herr; have HLK := Lib.hid hlk
        clear hes hts hst herr hlk
        go_wp2_with fail
        refine hky.mono ?_
        rintro e w1 ⟨A1, n1, c1, rfl, ho1, hn1, hb1⟩
        have hown1 := hown.below hb1
        have ho1' := own_mono ho1 hb.size
        have hb01 := hb.trans (hb1.mono hb.size)
        clear hown ho1 hky
        by_cases hz : r.1 = 0
        · have hzb : (r.1 != 0) = false := by rw [hz]; rfl
          have HZ := Lib.hid hz; clear hz
          obtain ⟨vs, hvs, hvl, hvk⟩ := id hown1
          have hgl : (keyM es0).length = k := by rw [List.length_map, HLK.out]
          rw [hgl] at hvs
          have hn1l : n1 = (ints (keyS r.2)).length := by have := ho1'.1; omega
          have HN1 := Lib.hid hn1l
          clear hgl hvl hvk hn1l
          go_wp2_with (at_builtin; refine wpList_append_own _ rfl _ _ 109 rfl w.heap.size 32 i1 (.slice none 0 0) 1 24 Tryd.underlying109 hi1 hy0 hy1 hy2 rfl (by decide) _ _ _ rfl (hvs.alloc _) ⟨w1.heap.size, 0, none⟩ 1 1 [.slice A1 n1 c1] rfl rfl (cell_one_new _ _ _) (by simp [Value.oneCell']) (by unfold maxLen; omega) (by omega) (by have := hb01.size; simp; omega) ?_; intro v' w2 hown' hgrow hx; clear hx)
          have hb2 : Below w.heap.size w w2 := (hb01.alloc hb01.size _).grown hgrow (by have := hb01.size; simp; omega) (fun g hg => (hvs.lt g hg).1)
          have hp := (hown1.alloc (.cells #[.slice A1 n1 c1] 32)).push (u := .slice A1 n1 c1) (xs := ints (keyS r.2)) (by decide) (by rw [← HN1.out]; exact ho1'.alloc _) (hvs.alloc _) hgrow hown'
          clear hgrow hvs hown' hown1
          go_roundw
          case rel =>
            refine ⟨k + 1, by omega, by go_num, ?_, ?_, hb2⟩
            · rw [HTS.out, keyM, List.map_append]; exact hp
            · rw [HES.out]; exact HZ.out
          case measure => simp [intOf]; omega
        · have hzb : (r.1 != 0) = true := by rw [bne_iff_ne]; exact hz
          have hE : sortRes gs ss = (r.1, []) := by
            have := HST.out hz
            rw [sortRes_bad (by rw [HL.out]; exact hn256) (by rw [this]; exact hz), this]
          have HE := Lib.hid hE
          clear hz hE
          go_wp2
          go_ret2
          rw [HE.out]
          exact ⟨_, rfl, World.ownsRow_nil _ _ _ _, hb01⟩
      · obtain rfl : k = n := by omega
        have hts : ss.take k = ss := List.take_of_length_le (by rw [HL.out]; exact Nat.le_refl _)
        rw [hts] at hown herr
        have hE : sortRes gs ss = (0, sortE (entsL gs ss)) := sortRes_ok (by rw [HL.out]; exact hn256) herr
        have HEQ := Lib.hid hE
        have hlen : (entsL gs ss).length = k := by rw [entsL_length, HL.out]
        have htx : ∀ j (h : j < ss.length) (h' : j < (entsL gs ss).length), (entsL gs ss)[j].2 = ss[j] := fun j h h' => by simp [entsL, entOf]
        obtain ⟨Am, cm, rfl, hcm1, hcm2⟩ := hown.form
        generalize entsL gs ss = es at hown hlen htx hcm1 HEQ
        have hkm : (keyM es).length = k := by rw [List.length_map, hlen]
        rw [hkm] at hown hcm1
        have HES := Lib.hid hlen; have HTX := Lib.hid htx; have HKM := Lib.hid hkm
        clear hE herr hts hlen htx hkm HK HSS hi1 hy0 hy1 hy2 hlt
        rw [HKM.out]
        go_wp2_with (at_make; refine wpList_make_full _ rfl _ _ 110 rfl w.heap.size 4 i2 (.bool false) 1 Tryd.underlying110 hi2 hx0 hx1 .i64 .i64 k k k rfl rfl rfl rfl (by rw [hx2]; omega) (by unfold maxLen; omega) hb.size ?_; intro w1 hmk hgm)
        have htk : (madeCells (Value.bool false).cells (k * 1)).toList = bools (List.replicate k false) := by
          rw [Nat.mul_one]
          show (madeCells #[Value.bool false] k).toList = _
          rw [toList_madeCells_one]; simp [bools]
        rw [htk] at hmk
        have hS0 := SelSt.start es
        rw [HES.out] at hS0
        have hb1 : Below w.heap.size w w1 := hb.grown hgm hb.size (fun g hg => by cases hg)
        have hown1 : OwnM w1 w.heap.size 32 3 (.slice Am k cm) (keyM es) := hown.low hgm (fun r e => by cases e)
        have HS0 := Lib.hid hS0
        clear htk hgm hown hS0 hb hi2 hx0 hx1 hx2
        generalize wr.heap.size = gb at hmk
        go_wp2_with fail
        go_loopw [11] (fun v wq => ∃ (tk : List Bool) (out : List Ent), SelSt es tk out ∧ wq.ownsRow w.heap.size 9 1 v out.length (strs (textsE out)) ∧ wq.ownsRow w.heap.size 4 1 (.slice (some ⟨gb, 0, none⟩) k k) k (bools tk) ∧ OwnM wq w.heap.size 32 3 (.slice Am k cm) (keyM es) ∧ Below w.heap.size w wq) (fun v _ => k - sliceN v)
        case atStart => exact ⟨List.replicate k false, [], HS0.out, World.ownsRow_nil _ _ _ _, hmk, hown1, hb1⟩
        case round =>
          clear hmk hown1 hb1 HS0
          obtain ⟨tk, out, hS, ho, ht, hM, hb⟩ := hrel
          obtain ⟨Ao, co, rfl, hco1, hco2⟩ := ownsRow_form ho
          have hle := hS.le
          rw [HES.out] at hle
          have htkl : tk.length = k := by rw [hS.len, HES.out]
          have HTKL := Lib.hid htkl
          have HS := Lib.hid hS
          clear htkl hS
          by_cases hlt : out.length < k
          · obtain ⟨wo, rfl⟩ : ∃ wo : World, wo = wr := ⟨_, rfl⟩
            have hcl := hr.below hb
            have HCL := Lib.hid hcl; have HHM := Lib.hid hM; have HT := Lib.hid ht; have HO := Lib.hid ho
            clear hcl hM ht ho
            go_wp2_with fail
            go_loopw [12, 13] (fun b i wi => ∃ (j : Nat) (bi : Int) (q : Nat), j ≤ k ∧ i = .int .i64 j ∧ b = .int .i64 bi ∧ BestSt es tk j bi ∧ wi = wo.drewN q) (fun _ i _ => k - (intOf i).toNat)
            case atStart => exact ⟨0, -1, 0, by omega, rfl, rfl, bestSt_start _ _, rfl⟩
            case round =>
              obtain ⟨j, bi, q, hj, rfl, rfl, hB, rfl⟩ := hrel
              have HB := Lib.hid hB; clear hB
              by_cases hltj : j < k
              · have hjt : j < tk.length := by rw [HTKL.out]; exact hltj
                have hje : j < es.length := by rw [HES.out]; exact hltj
                have hct : (wo.drewN q).cell? ⟨gb, j, none⟩ = some (.bool tk[j]) := by
                  have := World.ownsRow.cellAt HT.out j (by omega)
                  rw [List.getElem?_map, List.getElem?_eq_getElem hjt] at this
                  exact this
                by_cases htj : tk[j] = true
                · rw [htj] at hct
                  have HJ := Lib.hid htj; clear htj
                  go_wp2
                  go_roundw
                  case rel => exact ⟨j + 1, bi, q, by omega, by go_num, rfl, bestSt_skip HB.out hjt HJ.out, rfl⟩
                  case measure => simp [intOf]; omega
                · rw [Bool.not_eq_true] at htj
                  rw [htj] at hct
                  have HJ := Lib.hid htj; clear htj
                  by_cases hneg : bi = -1
                  · subst hneg
                    go_wp2_with fail
                    go_quiet (fail)
                    go_wp2
                    go_roundw
                    case rel => exact ⟨j + 1, j, _, by omega, by go_num, rfl, bestSt_first HB.out hje hjt HJ.out, rfl⟩
                    case measure => simp [intOf]; omega
                  · obtain ⟨bn, hbn, hbe, hbl⟩ : ∃ bn : Nat, bi = bn ∧ bn < es.length ∧ bn < k := by
                      rcases HB.out with ⟨h, _⟩ | ⟨bn, h1, _, h2, _⟩
                      · exact absurd h hneg
                      · exact ⟨bn, h1, h2, by rw [← HES.out]; exact h2⟩
                    subst hbn
                    clear hneg
                    have key : ∀ m (hm : m < es.length), ∃ (g c n' c' : Nat) (A' : Option Addr), Value.slice Am k cm = .slice (some ⟨g, 0, none⟩) k c ∧ (wo.drewN q).cell? ⟨g, m, none⟩ = some (.slice A' n' c') ∧ ReadI (wo.drewN q) (wo.drewN q).heap.size A' n' es[m].1 ∧ n' ≤ maxLen := by
                      intro m hm
                      obtain ⟨g', c', u, hv, hcu, hu⟩ := HHM.out.at_ (k := m) (by rw [HKM.out, ← HES.out]; exact hm)
                      obtain ⟨A', n', rfl, hn1, hn2⟩ := ownsRow_form hu
                      rw [HKM.out] at hv
                      have hR := Reads.of_own hu
                      simp only [List.getElem_map, List.length_map] at hR hcu hn1
                      exact ⟨g', c', _, n', A', hv, hcu, hR, by omega⟩
                    obtain ⟨ga, ca, na, ca', Aa, hva, hca, hRa, hna⟩ := key j hje
                    obtain ⟨gb', cb, nb, cb', Ab, hvb, hcb, hRb, hnb⟩ := key bn hbe
                    injection hva with hva1 _ hva3
                    subst hva1 hva3
                    injection hvb with hvb1 _ hvb3
                    injection hvb1 with hvb1
                    injection hvb1 with hvb1
                    subst hvb1 hvb3
                    have hjs : j < ss.length := by rw [HL.out]; exact hltj
                    have hbs : bn < ss.length := by rw [HL.out]; exact hbl
                    obtain ⟨ad, hAd, _, hcs1⟩ := ReadS.at_ (k := j) HCL.out hjs
                    obtain ⟨ad', hAd', _, hcs2⟩ := ReadS.at_ (k := bn) HCL.out hbs
                    subst hAd
                    injection hAd' with hAd'
                    subst hAd'
                    rw [← HTX.out j hjs hje] at hcs1
                    rw [← HTX.out bn hbs hbe] at hcs2
                    have hnew : befE es[j] es[bn] < 0 → BestSt es tk (j + 1) j := fun h => bestSt_new HB.out hje hjt HJ.out hbe h
                    have hold : ¬ befE es[j] es[bn] < 0 → BestSt es tk (j + 1) bn := fun h => bestSt_old HB.out hje hbe h
                    rw [befE_lt] at hnew hold
                    have hkeys := fun m => refkeys_any Aa Ab na nb ca' cb' es[j].1 es[bn].1 ((wo.drewN q).drewN m) _ _ (hRa.drewN m) (hRb.drewN m) hna hnb
                    have hcr := cmpL_range es[j].1 es[bn].1
                    generalize cmpL es[j].1 es[bn].1 = r at hkeys hnew hold hcr
                    have hcs1' : (wo.drewN q).cell? (ad.add j) = some (.string es[j].2) := hcs1
                    have hcs2' : (wo.drewN q).cell? (ad.add bn) = some (.string es[bn].2) := hcs2
                    clear key hcs1 hcs2 hRa hRb hna hnb
                    generalize es[j].2 = x at hnew hold hcs1'
                    generalize es[bn].2 = y at hnew hold hcs2'
                    have hl := bytesLess_eq x y
                    generalize hc : decide (Lib.compareBytes (bl x) (bl y) = -1) = b at hl
                    have HN := Lib.hid hnew; have HO2 := Lib.hid hold; have HC := Lib.hid hc; have HKY := Lib.hid hkeys
                    clear hnew hold hc hkeys
                    obtain ⟨wz, hwz⟩ : ∃ wz, wz = wo.drewN q := ⟨_, rfl⟩
                    rw [← hwz] at hct hca hcb hcs1' hcs2' HKY ⊢
                    have HWZ := Lib.hid hwz; clear hwz
                    have hbneg : decide (((bn : Nat) : Int) < 0) = false := by simp
                    rcases hcr with rfl | rfl | rfl
                    · go_wp2_with fail
                      go_quiet ((go_at_call 51; exact quietly_of (HKY.out _)))
                      go_wp2
                      go_roundw
                      case rel => exact ⟨j + 1, j, _, by omega, by go_num, rfl, HN.out (.inl (by omega)), by rw [HWZ.out, World.drewN_drewN]⟩
                      case measure => simp [intOf]; omega
                    · cases b
                      · go_wp2_with fail
                        go_quiet ((go_at_call 51; exact quietly_of (HKY.out _)))
                        go_wp2
                        go_roundw
                        case rel => exact ⟨j + 1, bn, _, by omega, by go_num, rfl, HO2.out (fun h => by rcases h with h | ⟨_, h⟩; omega; exact absurd h (of_decide_eq_false HC.out)), by rw [HWZ.out, World.drewN_drewN]⟩
                        case measure => simp [intOf]; omega
                      · go_wp2_with fail
                        go_quiet ((go_at_call 51; exact quietly_of (HKY.out _)))
                        go_wp2
                        go_roundw
                        case rel => exact ⟨j + 1, j, _, by omega, by go_num, rfl, HN.out (.inr ⟨by first | rfl | trivial, of_decide_eq_true HC.out⟩), by rw [HWZ.out, World.drewN_drewN]⟩
                        case measure => simp [intOf]; omega
                    · go_wp2_with fail
                      go_quiet ((go_at_call 51; exact quietly_of (HKY.out _)))
                      go_wp2
                      go_roundw
                      case rel => exact ⟨j + 1, bn, _, by omega, by go_num, rfl, HO2.out (fun h => by rcases h with h | ⟨h, _⟩ <;> omega), by rw [HWZ.out, World.drewN_drewN]⟩
                      case measure => simp [intOf]; omega
              · obtain rfl : j = k := by omega
                have hB := HB.out
                rw [← HES.out] at hB
                obtain ⟨bn, rfl, hbe, hS'⟩ := bestSt_end hB HS.out (by rw [HES.out]; exact hlt)
                have hbk : bn < j := by rw [← HES.out]; exact hbe
                have hbs : bn < ss.length := by rw [HL.out]; exact hbk
                have htd := HT.out
                obtain ⟨ht1, hg1⟩ := World.ownsRow.stored (w := wo.drewN q) (show (wo.drewN q).ownsRow w.heap.size 4 1 (.slice (some ⟨gb, 0, none⟩) j j) j (bools tk) from HT.out) bn (.bool true)
                have hfz := World.ownsRow.frozenAt (w := wo.drewN q) (show (wo.drewN q).ownsRow w.heap.size 4 1 (.slice (some ⟨gb, 0, none⟩) j j) j (bools tk) from HT.out) bn
                have hcb : (wo.drewN q).cell? ⟨gb, bn, none⟩ = some (.bool (tk[bn]'(by rw [HTKL.out]; exact hbk))) := by
                  have := World.ownsRow.cellAt HT.out bn (by omega)
                  rw [List.getElem?_map, List.getElem?_eq_getElem (by rw [HTKL.out]; exact hbk)] at this
                  exact this
                have hgbB := (HT.out.lt gb (by simp [Value.ownBlock])).1
                have hbq : Below w.heap.size w (wo.drewN q) := below_drewN hb q
                have hbst : Below w.heap.size w ((wo.drewN q).setCell ⟨gb, bn, none⟩ (.bool true)) := hbq.setCell hgbB _
                have ho1 : ((wo.drewN q).setCell ⟨gb, bn, none⟩ (.bool true)).ownsRow w.heap.size 9 1 (.slice Ao out.length co) out.length (strs (textsE out)) :=
                  World.ownsRow.kept (w := wo.drewN q) HO.out hg1 (own_own_ne (w := wo.drewN q) HO.out HT.out (by decide))
                have hM1 : OwnM ((wo.drewN q).setCell ⟨gb, bn, none⟩ (.bool true)) w.heap.size 32 3 (.slice Am j cm) (keyM es) := by
                  obtain ⟨cur, hcur⟩ : ∃ cur, (wo.drewN q).heap[gb]? = some (.cells cur 4 (0, 0)) := own_heap HT.out
                  exact OwnM.other (w := wo.drewN q) (t := 4) (cs := cur) HHM.out hg1 hcur (by decide) (by decide)
                obtain ⟨ad, hAd, _, hcs⟩ := ReadS.at_ (k := bn) (hr.below hbst) hbs
                subst hAd
                rw [← HTX.out bn hbs hbe] at hcs
                have hxs : strs (textsE (out ++ [es[bn]])) = strs (textsE out) ++ [.string es[bn].2] := by simp [textsE]
                generalize es[bn].2 = x at hcs hxs
                have HXS := Lib.hid hxs; have HS2 := Lib.hid hS'; have HT1 := Lib.hid ht1; have HM1 := Lib.hid hM1
                clear hxs hS' ht1 hg1 hM1 hB HB HO HT HHM HCL HS htd hb hbq
                go_wp2_with (at_builtin; refine wpList_append_own _ rfl _ _ 22 rfl w.heap.size 9 i0 (.string ByteArray.empty) 1 16 Tryd.underlying22 hi hz0 hz1 hz2 rfl (by decide) _ _ _ rfl (ho1.alloc _) ⟨_, 0, none⟩ 1 1 [.string x] rfl rfl (cell_one_at _ _ _ _ (by simp [World.setCell])) (by simp [Value.oneCell']) (by unfold maxLen; omega) (by omega) (by have := hbst.size; simp at this ⊢; omega) ?_; intro v' w2 ho2 hgrow hx; clear hx)
                have hb2 : Below w.heap.size w w2 := (hbst.alloc hbst.size _).grown hgrow (by have := hbst.size; simp at this ⊢; omega) (fun g hg => (ho1.lt g hg).1)
                have hbool : World.ownsRow w2 w.heap.size 4 1 (.slice (some ⟨gb, 0, none⟩) j j) j (bools (tk.set bn true)) := by
                  have h1 := World.ownsRow.kept (HT1.out.alloc (.cells #[.string x] 9)) hgrow (own_own_ne (HT1.out.alloc (.cells #[.string x] 9)) (ho1.alloc _) (by decide))
                  rw [show bools (tk.set bn true) = (bools tk).set bn (.bool true) by simp [bools, List.map_set]]
                  exact h1
                have hMx : OwnM w2 w.heap.size 32 3 (.slice Am j cm) (keyM es) := ownM_kept (HM1.out.alloc (.cells #[.string x] 9)) hgrow (ho1.alloc _) (by decide) (by decide)
                clear hgrow ho1
                obtain ⟨A2, c2, rfl, _, _⟩ := ownsRow_form ho2
                go_roundw
                case rel => exact ⟨tk.set bn true, out ++ [es[bn]], HS2.out, by rw [HXS.out, List.length_append, List.length_singleton]; exact ho2, hbool, hMx, hb2⟩
                case measure => simp [sliceN]; omega
          · have hd := HS.out.done (by rw [HES.out]; omega)
            have HD := Lib.hid hd
            clear hd ht hM
            go_wp2
            go_ret2
            rw [HEQ.out]
            refine ⟨_, rfl, ?_, hb⟩
            show World.ownsRow _ _ _ _ _ (textsE (sortE es)).length _
            rw [textsE_length, ← HD.out]
            exact ho
theorem refSortO_any (p : Option Addr) (og : Option (List (List ByteArray))) (A : Option Addr) (n c : Nat) (ss : List ByteArray) (w : World) (hA : RefO w p og) (hG : SmallO og) (hr : ReadS w w.heap.size A n ss) (hn : n ≤ maxLen) (hs : ∀ s ∈ ss, s.size ≤ maxLen) :
    Calls Tryd.prog 38 #[.pointer p, .slice A n c] w (TextsPost w (sortedT (sortResO og ss))) := by
  cases og with
  | none => obtain rfl : p = none := hA; exact refSortN_any A n c w
  | some gs => obtain ⟨g, rfl, h1⟩ := hA; exact refSort_prg g gs A n c ss w h1 hG hr hn hs
end Go.Proofs.YtcdpadggjkobjaaDoor
namespace Go.Proofs.YtcdpadggjkobjaaDoor
open Go.RowKit Go.Lib

theorem sortRes_ok1 {gs : List (List ByteArray)} {l : List ByteArray} (h : (sortRes gs l).1 = 0) : l.length ≤ 256 ∧ errL gs l = 0 ∧ (sortRes gs l).2 = sortE (entsL gs l) := by
  unfold sortRes at h ⊢
  split at h
  · cases h
  · split at h
    · rename_i h1 h2; rw [if_neg h1, if_pos h2]; exact ⟨by omega, h2, rfl⟩
    · rename_i h2; exact absurd h h2
theorem refBetween_fin (gs : List (List ByteArray)) (ss : List ByteArray) (s t : ByteArray) {z : Ent} (hz : z ∈ (sortRes gs ss).2) (h1 : (readRes gs s).1 = 0) (h2 : (readRes gs t).1 = 0) :
    orderRes (readRes gs s) (readRes gs z.2) s z.2 = (befE (keyS (readRes gs s).2, s) z, 0) ∧ orderRes (readRes gs z.2) (readRes gs t) z.2 t = (befE z (keyS (readRes gs t).2, t), 0) := by
  obtain ⟨_, h3, h4⟩ := sortRes_mem hz
  have e1 : errTwo (readRes gs s) (readRes gs z.2) = 0 := by unfold errTwo; rw [if_pos h1]; exact h4
  have e2 : errTwo (readRes gs z.2) (readRes gs t) = 0 := by unfold errTwo; rw [if_pos h4]; exact h2
  have hk : z.1 = keyS (readRes gs z.2).2 := by
    have h3' := congrArg Prod.fst h3
    exact h3'
  unfold orderRes
  rw [if_pos e1, if_pos e2]
  unfold befE
  rw [hk]
  exact ⟨rfl, rfl⟩
theorem refBetN_any (A : Option Addr) (n c : Nat) (s t : ByteArray) (w : World) : Calls Tryd.prog 42 #[.pointer none, .slice A n c, .string s, .string t] w (TextsPost w (1, [])) := by
  have h := refSortN_any A n c w
  go_enter Tryd.func42, Tryd.ntmps42
  go_wp2_with fail
  refine h.mono ?_
  rintro e w1 h1
  obtain ⟨A1, n1, c1, rfl, ho, hl, h2, h3, hb1⟩ := h1.form
  clear hl
  go_wp2
  go_ret2
  exact textsPost_none _ _ _ hb1
set_option maxRecDepth 100000 in
set_option maxHeartbeats 4000000 in
theorem refBet_prg (g : Nat) (gs : List (List ByteArray)) (A : Option Addr) (n c : Nat) (ss : List ByteArray) (s t : ByteArray) (w : World) (hA : RefAlph w g gs) (hG : SmallG gs) (hr : ReadS w w.heap.size A n ss) (hn : n ≤ maxLen) (hs : ∀ x ∈ ss, x.size ≤ maxLen) (hs1 : s.size ≤ maxLen) (ht1 : t.size ≤ maxLen) :
    Calls Tryd.prog 42 #[.pointer (some ⟨g, 0, none⟩), .slice A n c, .string s, .string t] w (TextsPost w (betwRes (sortRes gs ss) (readRes gs s) (readRes gs t) s t)) := by
  have h := refSort_prg g gs A n c ss w hA hG hr hn hs
  have hO := fun (a b : ByteArray) W (hb : Below w.heap.size w W) h1 h2 => refOrder_any (some ⟨g, 0, none⟩) (some gs) a b W ((show RefO w (some ⟨g, 0, none⟩) (some gs) from ⟨g, rfl, hA⟩).below hb) hG h1 h2
  have hst := hO s t
  have hfin := fun (z : Ent) (hz : z ∈ (sortRes gs ss).2) => refBetween_fin gs ss s t hz
  have hmem := fun (z : Ent) (hz : z ∈ (sortRes gs ss).2) => hs _ (sortRes_mem hz).1
  have hlen : (sortRes gs ss).2.length ≤ 256 := by
    by_cases h0 : (sortRes gs ss).1 = 0
    · obtain ⟨h1, _, h2⟩ := sortRes_ok1 h0
      rw [h2, sortE_length, entsL_length]; exact h1
    · have := sortResO_err (og := some gs) (l := ss) h0
      rw [show sortResO (some gs) ss = sortRes gs ss from rfl] at this
      rw [this]; simp
  generalize sortRes gs ss = r at h hfin hmem hlen ⊢
  rw [show readResO (some gs) s = readRes gs s from rfl, show readResO (some gs) t = readRes gs t from rfl] at hst
  have HO := Lib.hid hO; have HST := Lib.hid hst; have HFIN := Lib.hid hfin; have HMEM := Lib.hid hmem; have HLEN := Lib.hid hlen
  clear hO hst hfin hmem hlen hA hG hr hn hs
  by_cases hz : r.1 = 0
  · have hzb : (r.1 != 0) = false := by rw [hz]; rfl
    by_cases he : errTwo (readRes gs s) (readRes gs t) = 0
    · have hE := betwRes_ok (s := s) (t := t) hz he
      rw [hE]
      have he1 : (readRes gs s).1 = 0 := by
        unfold errTwo at he; split at he
        · assumption
        · exact he
      have he2 : (readRes gs t).1 = 0 := by unfold errTwo at he; rw [if_pos he1] at he; exact he
      have hor : orderRes (readRes gs s) (readRes gs t) s t = (beforeV (keyS (readRes gs s).2) (keyS (readRes gs t).2) s t, 0) := by unfold orderRes; rw [if_pos he]
      have HOR := Lib.hid hor; have HE1 := Lib.hid he1; have HE2 := Lib.hid he2; have HZ := Lib.hid hz
      clear hE he hor he1 he2 hz
      obtain ⟨i0, hi, hz0, hz1, hz2⟩ := info_parts info_string
      go_enter Tryd.func42, Tryd.ntmps42
      go_wp2_with fail
      refine h.mono ?_
      rintro e w1 h1
      obtain ⟨A1, n1, c1, rfl, ho, hl, hc1, hc2, hb1⟩ := h1.form
      unfold sortedT at ho hl
      rw [textsE_length] at hl
      have HL := Lib.hid hl
      clear h h1 hl
      rw [show (sortedT r).1 = r.1 from rfl, HZ.out]
      go_wp2_with fail
      refine (HST.out w1 hb1 hs1 ht1).mono ?_
      rw [HOR.out]
      rintro e w2 ⟨rfl, hb2⟩
      have ho2 := own_below ho hb2
      have hb02 := hb1.trans (hb2.mono hb1.size)
      clear ho HST hb1 hb2 HOR
      go_wp2_with fail
      have hn1 : n1 ≤ 256 := by rw [HL.out]; exact HLEN.out
      go_loopw [12, 13] (fun v i wr => ∃ (k : Nat) (l : List ByteArray), k ≤ n1 ∧ i = .int .i64 k ∧ wr.ownsRow w2.heap.size 9 1 v l.length (strs l) ∧ l = textsE (betw (keyS (readRes gs s).2, s) (keyS (readRes gs t).2, t) (r.2.take k)) ∧ l.length ≤ k ∧ Below w2.heap.size w2 wr) (fun _ i _ => n1 - (intOf i).toNat)
      case atStart => exact ⟨0, [], by omega, rfl, World.ownsRow_nil _ _ _ _, rfl, Nat.le_refl _, Below.refl _ _⟩
      case round =>
        obtain ⟨k, l, hk, rfl, hown, hlk, hll, hb⟩ := hrel
        by_cases hlt : k < n1
        · have hke : k < r.2.length := by rw [← HL.out]; exact hlt
          have hz := HFIN.out r.2[k] (List.getElem_mem hke) HE1.out HE2.out
          have hzs := HMEM.out r.2[k] (List.getElem_mem hke)
          have hread := Reads.below (Reads.of_own ho2) hb
          obtain ⟨ad, rfl, had, hcx⟩ := ReadS.at_ (k := k) hread (by rw [textsE_length]; exact hke)
          rw [show (textsE r.2)[k]'(by rw [textsE_length]; exact hke) = r.2[k].2 by simp [textsE]] at hcx
          have hf := betw_take (keyS (readRes gs s).2, s) (keyS (readRes gs t).2, t) r.2 hke
          have hbW := hb02.trans (hb.mono hb02.size)
          have c1 := HO.out s r.2[k].2 wr hbW hs1 hzs
          have c2 := fun W (hb' : Below w.heap.size w W) => HO.out r.2[k].2 t W hb' hzs ht1
          rw [show readResO (some gs) s = readRes gs s from rfl, show readResO (some gs) r.2[k].2 = readRes gs r.2[k].2 from rfl, hz.1] at c1
          rw [show readResO (some gs) t = readRes gs t from rfl, show readResO (some gs) r.2[k].2 = readRes gs r.2[k].2 from rfl, hz.2] at c2
          generalize r.2[k] = z at hcx hf c1 c2
          generalize befE (keyS (readRes gs s).2, s) z = u at c1 hf
          generalize befE z (keyS (readRes gs t).2, t) = v at c2 hf
          obtain ⟨x, hx⟩ : ∃ x, z.2 = x := ⟨_, rfl⟩
          rw [hx] at hcx c1 c2
          have HX := Lib.hid hx; have HF := Lib.hid hf; have C2 := Lib.hid c2; have HLK := Lib.hid hlk
          clear hx hf c2 hlk hz hzs hread
          go_wp2_with fail
          refine c1.mono ?_
          rintro e w3 ⟨rfl, hb3⟩
          have hb03 := hbW.trans (hb3.mono hbW.size)
          have hcx3 := (hb3.cell (p := ad.add k) (lt_of_cell hcx)).trans hcx
          clear c1
          go_wp2_with fail
          refine (C2.out _ hb03).mono ?_
          rintro e w4 ⟨rfl, hb4⟩
          have hcx4 := (hb4.cell (p := ad.add k) (lt_of_cell hcx3)).trans hcx3
          have hb34 := hb3.trans (hb4.mono hb3.size)
          have hown4 := own_below hown hb34
          have hb24 := hb.trans (hb34.mono hb.size)
          clear hown hcx hcx3 hb03 hb3 hb4 hb34 C2
          by_cases hu : u ≤ 0
          · by_cases hv : v ≤ 0
            · go_wp2_with (at_builtin; refine wpList_append_own _ rfl _ _ 22 rfl w2.heap.size 9 i0 (.string ByteArray.empty) 1 16 Tryd.underlying22 hi hz0 hz1 hz2 rfl (by decide) _ _ _ rfl (hown4.alloc _) ⟨w4.heap.size, 0, none⟩ 1 1 [.string x] rfl rfl (cell_one_new _ _ _) (by simp [Value.oneCell']) (by unfold maxLen; omega) (by omega) (by have := hb24.size; simp; omega) ?_; intro v' w5 hown' hgrow hx; clear hx)
              have hb5 : Below w2.heap.size w2 w5 := (hb24.alloc hb24.size _).grown hgrow (by have := hb24.size; simp; omega) (fun g hg => (hown4.lt g hg).1)
              clear hgrow hown4
              go_roundw
              case rel =>
                refine ⟨k + 1, l ++ [x], by omega, by go_num, by simpa using hown', ?_, by simp; omega, hb5⟩
                rw [HF.out, HLK.out, if_pos ⟨hu, hv⟩, ← HX.out]
              case measure => simp [intOf]; omega
            · go_wp2
              go_roundw
              case rel =>
                refine ⟨k + 1, l, by omega, by go_num, hown4, ?_, by omega, hb24⟩
                rw [HF.out, HLK.out, if_neg (fun h => absurd h.2 (by omega))]
                simp
              case measure => simp [intOf]; omega
          · go_wp2
            go_roundw
            case rel =>
              refine ⟨k + 1, l, by omega, by go_num, hown4, ?_, by omega, hb24⟩
              rw [HF.out, HLK.out, if_neg (fun h => absurd h.1 (by omega))]
              simp
            case measure => simp [intOf]; omega
        · obtain rfl : k = n1 := by omega
          rw [show r.2.take k = r.2 from List.take_of_length_le (by rw [← HL.out]; exact Nat.le_refl _)] at hlk
          have HLK := Lib.hid hlk
          clear hlk
          go_wp2
          go_ret2
          refine ⟨_, rfl, ?_, hb02.trans (hb.mono hb02.size)⟩
          rw [← HLK.out]
          exact own_mono hown hb02.size
    · have hE := betwRes_no (s := s) (t := t) hz he
      rw [hE]
      have hor : orderRes (readRes gs s) (readRes gs t) s t = (0, errTwo (readRes gs s) (readRes gs t)) := by unfold orderRes; rw [if_neg he]
      have heb : (errTwo (readRes gs s) (readRes gs t) != 0) = true := by rw [bne_iff_ne]; exact he
      generalize errTwo (readRes gs s) (readRes gs t) = er at heb hor
      have HOR := Lib.hid hor; have HZ := Lib.hid hz
      clear hE he hor hz
      go_enter Tryd.func42, Tryd.ntmps42
      go_wp2_with fail
      refine h.mono ?_
      rintro e w1 h1
      obtain ⟨A1, n1, c1, rfl, ho, hl, hc1, hc2, hb1⟩ := h1.form
      clear h h1 hl ho
      rw [show (sortedT r).1 = r.1 from rfl, HZ.out]
      go_wp2_with fail
      refine (HST.out w1 hb1 hs1 ht1).mono ?_
      rw [HOR.out]
      rintro e w2 ⟨rfl, hb2⟩
      go_wp2
      go_ret2
      exact textsPost_none _ _ _ (hb1.trans (hb2.mono hb1.size))
  · have hE := betwRes_bad (r1 := readRes gs s) (r2 := readRes gs t) (s := s) (t := t) hz
    rw [hE]
    have hzb : (r.1 != 0) = true := by rw [bne_iff_ne]; exact hz
    clear hE hz
    go_enter Tryd.func42, Tryd.ntmps42
    go_wp2_with fail
    refine h.mono ?_
    rintro e w1 h1
    obtain ⟨A1, n1, c1, rfl, ho, hl, hc1, hc2, hb1⟩ := h1.form
    clear h h1 hl ho
    rw [show (sortedT r).1 = r.1 from rfl]
    go_wp2
    go_ret2
    exact textsPost_none _ _ _ hb1
end Go.Proofs.YtcdpadggjkobjaaDoor
namespace Go.Proofs.YtcdpadggjkobjaaDoor
open Go.RowKit Go.Lib

theorem rleN_succ (n : Nat) (ks : List Int) : rleN (n + 1) ks = rleN n ks ++ (if 0 < ks.count (n : Int) then [(n, ks.count (n : Int))] else []) := by
  unfold rleN
  rw [List.range_succ, List.filterMap_append]
  congr 1
  simp only [List.filterMap_cons, List.filterMap_nil]
  split <;> rename_i h <;> split at h <;> simp_all
theorem firsts_perm {es es' : List Ent} (h : es.Perm es') : (firsts es).Perm (firsts es') := h.filterMap _
theorem count_pos_place {gs : List (List ByteArray)} {ss : List ByteArray} {g : Nat} (h : 0 < (firsts (entsL gs ss)).count (g : Int)) : ∃ hg : g < gs.length, gs[g] ≠ [] := by
  have hm := List.count_pos_iff.1 h
  unfold firsts at hm
  obtain ⟨e, he, hh⟩ := List.mem_filterMap.1 hm
  obtain ⟨s, _, rfl⟩ := List.mem_map.1 he
  obtain ⟨g', h1, h2, h3⟩ := entOf_places (gs := gs) (s := s) (List.mem_of_mem_head? hh)
  obtain rfl : g = g' := by omega
  exact ⟨h2, h3⟩
theorem firsts_take {gs : List (List ByteArray)} {ss : List ByteArray} {k : Nat} (hk : k < ss.length) (g : Int) :
    (firsts (entsL gs (ss.take (k + 1)))).count g = (firsts (entsL gs (ss.take k))).count g + (if (keyS (readRes gs ss[k]).2).head? = some g then 1 else 0) := by
  rw [entsL_take_succ hk, firsts_snoc, List.count_append]
  congr 1
  simp only
  cases h : (keyS (readRes gs ss[k]).2).head? with
  | none => simp
  | some a =>
    simp only [Option.toList_some]
    by_cases e : a = g
    · subst e; simp
    · rw [List.count_cons_of_ne e, if_neg (by simpa using e)]; simp
theorem add_zero' (a : Addr) : a.add 0 = a := by unfold Addr.add; split <;> simp_all
theorem refHeadsN_any (A : Option Addr) (n c : Nat) (w : World) : Calls Tryd.prog 40 #[.pointer none, .slice A n c] w (HeadsPost w (1, [], [])) := by
  have h := refSortN_any A n c w
  go_enter Tryd.func40, Tryd.ntmps40
  go_wp2_with fail
  refine h.mono ?_
  rintro e w1 h1
  obtain ⟨A1, n1, c1, rfl, ho, hl, hc1, hc2, hb1⟩ := h1.form
  clear h h1 hl ho
  go_wp2
  go_ret3
  exact ⟨_, _, rfl, World.ownsRow_nil _ _ _ _, World.ownsRow_nil _ _ _ _, hb1⟩
set_option maxRecDepth 100000 in
set_option maxHeartbeats 4000000 in
theorem refHeads_prg (g : Nat) (gs : List (List ByteArray)) (A : Option Addr) (n c : Nat) (ss : List ByteArray) (w : World) (hA : RefAlph w g gs) (hG : SmallG gs) (hr : ReadS w w.heap.size A n ss) (hn : n ≤ maxLen) (hs : ∀ s ∈ ss, s.size ≤ maxLen) :
    Calls Tryd.prog 40 #[.pointer (some ⟨g, 0, none⟩), .slice A n c] w (HeadsPost w (headsResO (some gs) ss)) := by
  have h := refSort_prg g gs A n c ss w hA hG hr hn hs
  have hk := fun (s : ByteArray) W (hb : Below w.heap.size w W) (hs : s.size ≤ maxLen) => (refKeyO_any (some ⟨g, 0, none⟩) (some gs) s W ((show RefO w (some ⟨g, 0, none⟩) (some gs) from ⟨g, rfl, hA⟩).below hb) hG hs).mono fun _ _ h => h.formO
  have HL := Lib.hid hr.len
  have hgl : gs.length ≤ 20000 := hG.1
  by_cases hz : (sortRes gs ss).1 = 0
  · obtain ⟨h256, herr, hsrt⟩ := sortRes_ok1 hz
    have hres : headsResO (some gs) ss = (0, headsL gs (rleN gs.length (firsts (entsL gs ss))), countsL (rleN gs.length (firsts (entsL gs ss)))) := by
      show ((sortRes gs ss).1, headsL gs (if (sortRes gs ss).1 = 0 then rleN gs.length (firsts (sortRes gs ss).2) else []), countsL (if (sortRes gs ss).1 = 0 then rleN gs.length (firsts (sortRes gs ss).2) else [])) = _
      rw [if_pos hz, hz, hsrt, rleN_perm gs.length (firsts_perm (sortE_perm (entsL gs ss)))]
    rw [hres]
    have hall := errL_zero.1 herr
    unfold sortedT at h
    rw [hz] at h
    generalize hksx : firsts (entsL gs ss) = ks
    have hplace := fun (a : Nat) (h : 0 < ks.count (a : Int)) => count_pos_place (gs := gs) (ss := ss) (g := a) (by rw [hksx]; exact h)
    have hkl : ks.length ≤ 256 := by
      rw [← hksx]
      refine Nat.le_trans (List.length_filterMap_le _ _) ?_
      rw [entsL_length]; exact h256
    have hn256 : n ≤ 256 := by rw [← HL.out]; exact h256
    have HK := Lib.hid hk; have HSS := Lib.hid hs; have HALL := Lib.hid hall; have HKS := Lib.hid hksx; have HPL := Lib.hid hplace
    clear hk hs hall hksx hplace hres hsrt herr hz h256 hn
    obtain ⟨base, vm, hblk, hM⟩ := hA
    obtain ⟨i0, hi, hz0, hz1, hz2⟩ := info_parts info_string
    obtain ⟨i1, hi1, hy0, hy1, hy2⟩ := info_parts info_int
    go_enter Tryd.func40, Tryd.ntmps40
    go_wp2_with fail
    refine h.mono ?_
    rintro e w1 h1
    obtain ⟨A1, n1, c1, rfl, ho, hl, hc1, hc2, hb1⟩ := h1.form
    clear h h1 hl ho hc1 hc2
    go_wp2_with fail
    go_loopw [9, 10, 11] (fun vh vc i wr => ∃ (a : Nat), a ≤ gs.length ∧ i = .int .i64 a ∧ wr.ownsRow w1.heap.size 9 1 vh (rleN a ks).length (strs (headsL gs (rleN a ks))) ∧ wr.ownsRow w1.heap.size 3 1 vc (rleN a ks).length (ints (countsL (rleN a ks))) ∧ Below w1.heap.size w1 wr) (fun _ _ i _ => gs.length - (intOf i).toNat)
    case atStart => exact ⟨0, by omega, rfl, World.ownsRow_nil _ _ _ _, World.ownsRow_nil _ _ _ _, Below.refl _ _⟩
    case round =>
      obtain ⟨a, hak, rfl, hoh, hoc, hb⟩ := hrel
      have hb0 := hb1.trans (hb.mono hb1.size)
      have hcv := (hblk.below hb0 hblk.lt).cell 1
      simp only [List.getElem?_toArray, List.getElem?_cons_succ, List.getElem?_cons_zero] at hcv
      obtain ⟨Am, cm, hvm, hcm1, hcm2⟩ := hM.form
      rw [List.length_map] at hvm hcm1
      subst hvm
      by_cases hlt : a < gs.length
      · obtain ⟨wo, rfl⟩ : ∃ wo : World, wo = wr := ⟨_, rfl⟩
        have HOH := Lib.hid hoh; have HOC := Lib.hid hoc
        clear hoh hoc
        go_wp2_with fail
        go_loopw [12, 13] (fun t i wi => ∃ (j : Nat), j ≤ n ∧ i = .int .i64 j ∧ t = .int .i64 ((firsts (entsL gs (ss.take j))).count (a : Int) : Nat) ∧ Below wo.heap.size wo wi) (fun _ i _ => n - (intOf i).toNat)
        case atStart => exact ⟨0, by omega, rfl, rfl, Below.refl _ _⟩
        case round =>
          obtain ⟨j, hj, rfl, rfl, hbi⟩ := hrel
          by_cases hltj : j < n
          · have hjs : j < ss.length := by rw [HL.out]; exact hltj
            have hbw := hb0.trans (hbi.mono hb0.size)
            obtain ⟨ad, rfl, had, hcx⟩ := ReadS.at_ (k := j) (Reads.below hr hbw) hjs
            have hft := firsts_take (gs := gs) hjs (a : Int)
            have hcle : (firsts (entsL gs (ss.take (j + 1)))).count (a : Int) ≤ 256 := by
              refine Nat.le_trans List.count_le_length (Nat.le_trans (List.length_filterMap_le _ _) ?_)
              rw [entsL_length, List.length_take]; omega
            have hky := HK.out ss[j] wr hbw (HSS.out _ (List.getElem_mem hjs))
            have hr0 := HALL.out _ (List.getElem_mem hjs)
            rw [show readResO (some gs) ss[j] = readRes gs ss[j] from rfl] at hky
            rw [hft] at hcle
            generalize ss[j] = x at hcx hft hcle hky hr0
            generalize readRes gs x = r at hft hcle hky hr0
            generalize (firsts (entsL gs (ss.take j))).count (a : Int) = cn at hft hcle
            have HFT := Lib.hid hft; have HR0 := Lib.hid hr0
            clear hft hr0
            go_wp2_with fail
            refine hky.mono ?_
            rintro e w2 ⟨A2, n2, c2, rfl, ho2, hn2, hb2⟩
            have hbi2 := hbi.trans (hb2.mono hbi.size)
            have hkr : ReadI w2 w2.heap.size A2 n2 (keyS r.2) := Reads.of_own ho2
            have hkl2 := hkr.len
            unfold maxLen at hn2
            cases hkk : keyS r.2 with
            | nil =>
              have h0 : n2 = 0 := by rw [← hkl2, hkk]; rfl
              rw [hkk] at HFT hcle
              have HF2 := Lib.hid (show (firsts (entsL gs (ss.take (j + 1)))).count (a : Int) = cn by rw [HFT.out]; simp)
              subst h0
              clear hky hkr hkl2 hkk ho2
              go_wp2
              go_roundw
              case rel => exact ⟨j + 1, by omega, by go_num, by rw [HF2.out], hbi2⟩
              case measure => simp [intOf]; omega
            | cons y ys =>
              have h0 : 0 < n2 := by rw [← hkl2, hkk]; simp
              obtain ⟨ak, rfl, hakb, hck⟩ := ReadI.at_ (k := 0) hkr (by rw [hkk]; simp)
              simp only [hkk, List.getElem_cons_zero] at hck
              have hck0 := hck
              rw [add_zero'] at hck0
              rw [hkk] at HFT hcle
              by_cases hya : y = (a : Int)
              · have hyb : (y == (a : Int)) = true := by rw [beq_iff_eq]; exact hya
                have HF2 := Lib.hid (show (firsts (entsL gs (ss.take (j + 1)))).count (a : Int) = cn + 1 by rw [HFT.out, if_pos (by simp [hya])])
                rw [if_pos (by simp [hya])] at hcle
                clear hky hkr hkl2 hkk ho2 hya
                go_wp2
                go_roundw
                case rel => exact ⟨j + 1, by omega, by go_num, by rw [HF2.out]; go_num, hbi2⟩
                case measure => simp [intOf]; omega
              · have hyb : (y == (a : Int)) = false := by rw [beq_eq_false_iff_ne]; exact hya
                have HF2 := Lib.hid (show (firsts (entsL gs (ss.take (j + 1)))).count (a : Int) = cn by rw [HFT.out, if_neg (by simpa using hya)]; rfl)
                clear hky hkr hkl2 hkk ho2 hya
                go_wp2
                go_roundw
                case rel => exact ⟨j + 1, by omega, by go_num, by rw [HF2.out], hbi2⟩
                case measure => simp [intOf]; omega
          · obtain rfl : j = n := by omega
            rw [show ss.take j = ss from List.take_of_length_le (by rw [HL.out]; exact Nat.le_refl _), HKS.out]
            have hoh1 := own_below HOH.out hbi
            have hoc1 := own_below HOC.out hbi
            have hbw1 := hb.trans (hbi.mono hb.size)
            have hrs := rleN_succ a ks
            have hrl := rleN_len_le a (ks := ks)
            have hpl := HPL.out a
            have hcl : ks.count (a : Int) ≤ 256 := Nat.le_trans List.count_le_length hkl
            generalize ks.count (a : Int) = q at hrs hpl hcl
            have HRS := Lib.hid hrs; have HP := Lib.hid hpl
            clear hrs hpl HOH HOC
            by_cases hq : 0 < q
            · obtain ⟨hg', hne⟩ := HP.out hq
              have hcs := countsL_snoc (rleN a ks) a q
              have hhs := headsL_snoc gs (rleN a ks) a q
              have hM2 := hM.below (hb0.trans (hbi.mono hb0.size))
              obtain ⟨b1, cb1, b2, nb2, cb2, hvv, hg1, hnb1, hnb2, hg2⟩ := head_at hM2 hg' hne
              injection hvv with hv1 _ hv3
              subst hv1 hv3
              generalize headG gs a = hd at hg2 hhs
              generalize rleN a ks = R at hoh1 hoc1 HRS hrl hcs hhs
              have HCS := Lib.hid hcs; have HHS := Lib.hid hhs
              have hqi : (0 : Int) < (q : Int) := by omega
              unfold maxLen at hnb2
              have hcvr := (hbi.cell (p := ⟨g, 1, none⟩) (lt_of_cell hcv)).trans hcv
              clear hcs hhs HP hM2
              go_wp2_with (first
                | (at_builtin; refine wpList_append_own _ rfl _ _ 22 rfl w1.heap.size 9 i0 (.string ByteArray.empty) 1 16 Tryd.underlying22 hi hz0 hz1 hz2 rfl (by decide) _ _ _ rfl (hoh1.alloc _) ⟨_, 0, none⟩ 1 1 [.string hd] rfl rfl (cell_one_new _ _ _) (by simp [Value.oneCell']) (by unfold maxLen; omega) (by omega) (by have := hbw1.size; simp; omega) ?_; intro v' w3 hown3 hgrow3 hx; clear hx; have hoc3 := World.ownsRow.kept (hoc1.alloc (.cells #[.string hd] 9)) hgrow3 (own_own_ne (hoc1.alloc (.cells #[.string hd] 9)) (hoh1.alloc (.cells #[.string hd] 9)) (by decide)); have hb3 : Below w1.heap.size w1 w3 := (hbw1.alloc hbw1.size _).grown hgrow3 (by have := hbw1.size; simp; omega) (fun g hg => (hoh1.lt g hg).1); clear hgrow3)
                | (at_builtin; refine wpList_append_own _ rfl _ _ 32 rfl w1.heap.size 3 i1 (.int .i64 0) 1 8 Tryd.underlying32 hi1 hy0 hy1 hy2 rfl (by decide) _ _ _ rfl (hoc3.alloc _) ⟨w3.heap.size, 0, none⟩ 1 1 [.int .i64 q] rfl rfl (cell_one_new _ _ _) (by simp [Value.oneCell']) (by unfold maxLen; omega) (by omega) (by have := hb3.size; simp; omega) ?_; intro v'' w4 hown4 hgrow4 hx; clear hx; have hoh4 := World.ownsRow.kept (hown3.alloc (.cells #[.int .i64 q] 3)) hgrow4 (own_own_ne (hown3.alloc (.cells #[.int .i64 q] 3)) (hoc3.alloc (.cells #[.int .i64 q] 3)) (by decide)); have hb4 : Below w1.heap.size w1 w4 := (hb3.alloc hb3.size _).grown hgrow4 (by have := hb3.size; simp; omega) (fun g hg => (hoc3.lt g hg).1); clear hgrow4))
              go_roundw
              case rel =>
                refine ⟨a + 1, by omega, by go_num, ?_, ?_, hb4⟩
                · rw [HRS.out, if_pos hq, HHS.out, List.length_append, List.length_singleton, show strs (headsL gs R ++ [hd]) = strs (headsL gs R) ++ [.string hd] by simp]; exact hoh4
                · rw [HRS.out, if_pos hq, HCS.out, List.length_append, List.length_singleton, show ints (countsL R ++ [(q : Int)]) = ints (countsL R) ++ [.int .i64 q] by simp]; exact hown4
              case measure => simp [intOf]; omega
            · obtain rfl : q = 0 := by omega
              go_wp2
              go_roundw
              case rel =>
                refine ⟨a + 1, by omega, by go_num, ?_, ?_, hbw1⟩
                · rw [HRS.out, if_neg hq, List.append_nil]; exact hoh1
                · rw [HRS.out, if_neg hq, List.append_nil]; exact hoc1
              case measure => simp [intOf]; omega
      · obtain rfl : a = gs.length := by omega
        obtain ⟨Ah, ch, rfl, _, _⟩ := ownsRow_form hoh
        obtain ⟨Ac, cc, rfl, _, _⟩ := ownsRow_form hoc
        go_wp2
        go_ret3
        refine ⟨_, _, rfl, ?_, ?_, hb0⟩
        · rw [headsL_len]; exact own_mono hoh hb1.size
        · rw [countsL_len]; exact own_mono hoc hb1.size
  · have hres : headsResO (some gs) ss = ((sortRes gs ss).1, [], []) := by
      show ((sortRes gs ss).1, headsL gs (if (sortRes gs ss).1 = 0 then rleN gs.length (firsts (sortRes gs ss).2) else []), countsL (if (sortRes gs ss).1 = 0 then rleN gs.length (firsts (sortRes gs ss).2) else [])) = _
      rw [if_neg hz]; rfl
    rw [hres]
    clear hres hk hA hG hr hn hs hgl
    generalize sortRes gs ss = r at h hz ⊢
    have hzb : (r.1 != 0) = true := by rw [bne_iff_ne]; exact hz
    clear hz
    go_enter Tryd.func40, Tryd.ntmps40
    go_wp2_with fail
    refine h.mono ?_
    rintro e w1 h1
    obtain ⟨A1, n1, c1, rfl, ho, hl, hc1, hc2, hb1⟩ := h1.form
    clear h h1 hl ho
    rw [show (sortedT r).1 = r.1 from rfl]
    go_wp2
    go_ret3
    exact ⟨_, _, rfl, World.ownsRow_nil _ _ _ _, World.ownsRow_nil _ _ _ _, hb1⟩
theorem refHeadsO_any (p : Option Addr) (og : Option (List (List ByteArray))) (A : Option Addr) (n c : Nat) (ss : List ByteArray) (w : World) (hA : RefO w p og) (hG : SmallO og) (hr : ReadS w w.heap.size A n ss) (hn : n ≤ maxLen) (hs : ∀ s ∈ ss, s.size ≤ maxLen) :
    Calls Tryd.prog 40 #[.pointer p, .slice A n c] w (HeadsPost w (headsResO og ss)) := by
  cases og with
  | none => obtain rfl : p = none := hA; exact refHeadsN_any A n c w
  | some gs => obtain ⟨g, rfl, h1⟩ := hA; exact refHeads_prg g gs A n c ss w h1 hG hr hn hs
theorem refBetO_any (p : Option Addr) (og : Option (List (List ByteArray))) (A : Option Addr) (n c : Nat) (ss : List ByteArray) (s t : ByteArray) (w : World) (hA : RefO w p og) (hG : SmallO og) (hr : ReadS w w.heap.size A n ss) (hn : n ≤ maxLen) (hs : ∀ s ∈ ss, s.size ≤ maxLen) (hs1 : s.size ≤ maxLen) (ht1 : t.size ≤ maxLen) :
    Calls Tryd.prog 42 #[.pointer p, .slice A n c, .string s, .string t] w (TextsPost w (betwRes (sortResO og ss) (readResO og s) (readResO og t) s t)) := by
  cases og with
  | none => obtain rfl : p = none := hA; exact refBetN_any A n c s t w
  | some gs => obtain ⟨g, rfl, h1⟩ := hA; exact refBet_prg g gs A n c ss s t w h1 hG hr hn hs hs1 ht1
end Go.Proofs.YtcdpadggjkobjaaDoor
