/-
  layer 36: New of the program. Conditions: names and roads that can be read; names of the reach.
-/
import Derived.Test.YtgimhjkijpcgjaaDoorGam
import Derived.Deep.DeepCutAuto
import Derived.Deep.RegionWith
import Derived.Deep.RegionHeldLaw
import Derived.Deep.LoopGhost
namespace Go.Proofs.YtgimhjkijpcgjaaDoor
open Go.RowKit Go.Lib

theorem add_next (a : Addr) (n j : Nat) : a.add (n + (j + 1)) = ⟨(a.add n).block, (a.add n).off + (j + 1), none⟩ := by
  unfold Addr.add
  by_cases h : n = 0
  · subst h; simp
  · simp [h, Nat.add_assoc]
theorem newPost_bad {w w' : World} {names : List ByteArray} {roads : List Rd} {v : Int} (hv : newE names roads = v) (h0 : v ≠ 0) (hb : Below w.heap.size w w') : NewPost w names roads (.returned (.tuple #[.pointer none, .int .i64 v])) w' :=
  ⟨fun _ => by rw [hv], fun h => absurd (hv.symm.trans h) h0, hb⟩
theorem nameF_eq (l : List ByteArray) (x : ByteArray) : nameF l x = (l.findIdx? fun y => y.data.toList == x.data.toList).map fun (i : Nat) => (i : Int) := by
  unfold nameF
  cases l.findIdx? (fun y => y.data.toList == x.data.toList) <;> rfl
theorem nameF_some (l : List ByteArray) (x : ByteArray) : (nameF l x).isSome = hasName l x := by
  rw [nameF_eq]
  unfold hasName
  rw [Option.isSome_map]
  exact List.findIdx?_isSome
theorem nameF_snoc {l : List ByteArray} {x : ByteArray} (h : hasName l x = false) : nameF (l ++ [x]) = fun t => if t = x then some (l.length : Int) else nameF l t := by
  funext t
  rw [nameF_eq, nameF_eq, List.findIdx?_append]
  by_cases e : t = x
  · subst e
    rw [if_pos rfl]
    have hn : l.findIdx? (fun y => y.data.toList == t.data.toList) = none := by
      have := nameF_some l t
      rw [nameF_eq, h, Option.isSome_map] at this
      cases hc : l.findIdx? (fun y => y.data.toList == t.data.toList) with
      | none => rfl
      | some i => rw [hc] at this; cases this
    rw [hn]
    simp [List.findIdx?_cons]
  · rw [if_neg e]
    have hx : (x.data.toList == t.data.toList) = false := by
      rw [beq_eq_false_iff_ne]
      exact fun he => e (Go.WideShapes.bytes_inj he).symm
    rw [show ([x].findIdx? fun y => y.data.toList == t.data.toList) = none by rw [List.findIdx?_cons, hx]; rfl]
    simp
theorem okName_nil {x : ByteArray} (h : x.data.toList = []) : okName x = false := by
  have : x.size = 0 := by rw [Lib.size_eq, h]; rfl
  unfold okName; rw [this]; rfl
theorem okName_long {x : ByteArray} (h : 24 < x.size) : okName x = false := by
  unfold okName; rw [decide_eq_false (show ¬ x.size ≤ 24 by omega)]; simp
theorem okName_byte {x : ByteArray} (h : x.data.toList.all okByte = false) : okName x = false := by unfold okName; rw [h]; simp
theorem okName_yes {x : ByteArray} (h1 : x.data.toList ≠ []) (h2 : ¬ 24 < x.size) (h3 : x.data.toList.all okByte = true) : okName x = true := by
  have : 0 < x.size := by
    rw [Lib.size_eq]
    cases h : x.data.toList with
    | nil => exact absurd h h1
    | cons a l => simp
  unfold okName; rw [h3, decide_eq_true this, decide_eq_true (show x.size ≤ 24 by omega)]; rfl
theorem nearU_few {n : Nat} (roads : List Rd) (hok : ∀ x ∈ roads, Okr n x) (hap : Apart2 roads) (u : Nat) : ((nearU n roads).getD u []).length ≤ n := by
  have h1 := nearU_nodup roads hok hap u
  have h2 := nodup_len n _ h1 (fun v hv => by
    obtain ⟨⟨v', l⟩, hm, rfl⟩ := List.mem_map.1 hv
    obtain ⟨x, hx, hr⟩ := (nearU_mem roads hok u v' l).1 hm
    obtain ⟨a0, a1, b0, b1, _⟩ := hok x hx
    unfold isRoad at hr
    show v' < n
    omega)
  rwa [List.length_map] at h2
theorem contains_has {n : Nat} (roads : List Rd) (hok : ∀ x ∈ roads, Okr n x) (a b : Nat) (l : Int) : ((nearU n roads).getD a []).any (fun e => ((e.1 : Int) == (b : Int))) = hasRoad roads ((a : Int), (b : Int), l) := by
  unfold hasRoad
  rw [Bool.eq_iff_iff, List.any_eq_true, List.any_eq_true]
  constructor
  · rintro ⟨⟨v, l'⟩, hm, hv⟩
    obtain ⟨y, hy, hr⟩ := (nearU_mem roads hok a v l').1 hm
    refine ⟨y, hy, ?_⟩
    have hv' : (v : Int) = (b : Int) := by simpa using hv
    unfold isRoad at hr
    have hg : (y.1 = (a : Int) ∧ y.2.1 = (b : Int)) ∨ (y.1 = (b : Int) ∧ y.2.1 = (a : Int)) := by omega
    unfold sameRoad
    simpa using hg
  · rintro ⟨y, hy, hs⟩
    refine ⟨(b, y.2.2), (nearU_mem roads hok a b y.2.2).2 ⟨y, hy, ?_⟩, by simp⟩
    unfold sameRoad at hs
    have hg : (y.1 = (a : Int) ∧ y.2.1 = (b : Int)) ∨ (y.1 = (b : Int) ∧ y.2.1 = (a : Int)) := by simpa using hs
    unfold isRoad
    rcases hg with hg | hg
    · exact .inl ⟨hg.1, hg.2, rfl⟩
    · exact .inr ⟨hg.1, hg.2, rfl⟩
theorem reads_new2 (w : World) (t : TypeId) (x y : Value) : Reads (w.alloc (.cells #[x, y] t)) (w.heap.size + 1) 2 (some ⟨w.heap.size, 0, none⟩) 1 [x, y] :=
  ⟨rfl, fun _ => ⟨_, rfl, Nat.lt_succ_self _, fun j u hu => by rw [add_at, (Blk.new w t #[x, y]).cell j]; simpa using hu⟩⟩
/-- The first q rows in order. -/
def sortTo (U : Nat → List (Nat × Int)) (q : Nat) : Nat → List (Nat × Int) := fun j => if j < q then (U j).mergeSort endLe else U j
theorem sortTo_here (U : Nat → List (Nat × Int)) (q : Nat) : sortTo U q q = U q := by unfold sortTo; rw [if_neg (Nat.lt_irrefl q)]
theorem sortTo_succ (U : Nat → List (Nat × Int)) (q : Nat) : sortTo U (q + 1) = setU (sortTo U q) q ((U q).mergeSort endLe) := by
  funext j
  show (if j < q + 1 then (U j).mergeSort endLe else U j) = if j = q then (U q).mergeSort endLe else if j < q then (U j).mergeSort endLe else U j
  by_cases e : j = q
  · subst e; rw [if_pos (Nat.lt_succ_self j), if_pos rfl]
  · rw [if_neg e]
    by_cases h : j < q
    · rw [if_pos h, if_pos (by omega)]
    · rw [if_neg h, if_neg (by omega)]
theorem NewM.congr {w wr : World} {g mb qE N cnt : Nat} {vN vR : Value} {names : List ByteArray} {roads : List Rd} {f : ByteArray → Option Int} {us : Nat → Value} {near near' : Nat → List (Nat × Int)} (h : NewM w wr g mb qE N vN vR names roads cnt f us near) (e : ∀ q, q < N → near q = near' q) : NewM w wr g mb qE N vN vR names roads cnt f us near' :=
  ⟨h.blk, h.nm, h.mp, h.rd, ⟨h.nr.row, fun q hq => by rw [← e q hq]; exact h.nr.rows q hq, h.nr.apart, h.nr.hq⟩, h.below, h.hg, h.hm⟩
set_option linter.unusedSimpArgs false in
set_option maxRecDepth 40000 in
set_option maxHeartbeats 100000000 in
theorem new_any (A B : Option Addr) (n c m d : Nat) (names : List ByteArray) (roads : List Rd) (w : World) (hN : ReadS w w.heap.size A n names) (hR : Reads w w.heap.size 3 B m (roads.flatMap roadV)) (hs : ∀ s ∈ names, s.size ≤ maxLen) :
    Calls Tryd.prog 32 #[.slice A n c, .slice B m d] w (NewPost w names roads) := by
  have hnl := hN.len
  have hrl : roads.length = m := by
    have := hR.1
    rw [flatMap_len roadV 3 (fun _ => rfl)] at this; omega
  by_cases hbig : 128 < n
  · have hE : newE names roads = 12 := by unfold newE; rw [if_pos (by omega)]
    unfold NewPost
    have HE := Lib.hid hE
    clear hE hN hR hs hnl hrl
    go_enter Tryd.func32, Tryd.ntmps32
    go_wp2
    go_ret2
    exact ⟨fun _ => by rw [HE.out]; rfl, fun h => by rw [HE.out] at h; omega, Below.refl _ _⟩
  by_cases hbig2 : 512 < m
  · have hE : newE names roads = 12 := by unfold newE; rw [if_pos (by omega)]
    unfold NewPost
    have HE := Lib.hid hE
    have hbd : decide (128 < (n : Int)) = false := decide_eq_false (by omega)
    clear hE hN hR hs hnl hrl
    go_enter Tryd.func32, Tryd.ntmps32
    go_wp2
    go_ret2
    exact ⟨fun _ => by rw [HE.out]; rfl, fun h => by rw [HE.out] at h; omega, Below.refl _ _⟩
  have hE : newE names roads = if namesE [] names = 0 then roadsE n [] roads else namesE [] names := by unfold newE; rw [if_neg (by omega), hnl]
  have hclN := fun W (hb : Below w.heap.size w W) => cloneS_any A n c (strs names) W w.heap.size (Reads.below hN hb) (fun u hu => by obtain ⟨s, _, rfl⟩ := List.mem_map.1 hu; rfl) hb.size (by omega)
  have hclR := fun W (hb : Below w.heap.size w W) => cloneR_any B m d (roads.flatMap roadV) W w.heap.size (hR.below hb) (fun u hu => by
    obtain ⟨r, _, hr⟩ := List.mem_flatMap.1 hu
    simp only [roadV, List.mem_cons, List.not_mem_nil, or_false] at hr
    rcases hr with rfl | rfl | rfl <;> rfl) hb.size (by omega)
  have hmm := @run_makeMap Tryd.prog
  have hmk := fun W => run_make_row' (P := Tryd.prog) 59 104 (.slice none 0 0) 24 Tryd.underlying59 (by kernel_rfl) rfl .i64 .i64 n (by omega) (by omega) W
  have HE := Lib.hid hE; have HN := Lib.hid hN; have HR := Lib.hid hR; have HS := Lib.hid hs; have HNL := Lib.hid hnl; have HRL := Lib.hid hrl; have HCN := Lib.hid hclN; have HCR := Lib.hid hclR
  have hbd : decide (128 < (n : Int)) = false := decide_eq_false (by omega)
  have hbd2 : decide (512 < (m : Int)) = false := decide_eq_false (by omega)
  clear hE hN hR hs hnl hrl hclN hclR
  go_enter Tryd.func32, Tryd.ntmps32
  go_upto_region 4 with fail
  go_cut [7] (fun p wr => ∃ g mb qE vN vR, p = .pointer (some ⟨g, 0, none⟩) ∧ NewM w wr g mb qE n vN vR names roads 0 (fun _ => none) (fun _ => .slice none 0 0) (fun _ => []))
  case first =>
    have hnn := HNL.out
    have hrr := HRL.out
    have HHN := Lib.hid hnn; have HHR := Lib.hid hrr
    clear hnn hrr
    go_region_with (first
      | (go_at_call 61; refine (HCN.out _ (by repeat' (with_reducible first | exact Below.refl _ _ | refine below_lt hb2 ?_ | apply Below.drew | apply below_al))).mono ?_; rintro e w1 ⟨v1, rfl, ho1, hb1⟩; obtain ⟨A1, c1, rfl, _, _⟩ := ownsRow_form ho1)
      | (go_at_call 62; refine (HCR.out _ (by repeat' (with_reducible first | exact Below.refl _ _ | refine below_lt hb1 ?_ | apply Below.drew | apply below_al))).mono ?_; rintro e w2 ⟨v2, rfl, ho2, hb2⟩; obtain ⟨A2, c2, rfl, _, _⟩ := ownsRow_form ho2))
    all_goals (go_wp2_with fail; go_meet)
    all_goals
      have s1 := hb1.size
      have s2 := hb2.size
      simp only [World.size_alloc, size_drew_] at s1 s2 ho1 ho2
      exact ⟨_, _, _, _, _, rfl, NewM.start (blk_new' (by simp))
        (by rw [HHN.out]; (repeat' (with_reducible first | refine own_mono ho1 ?_ | refine own_lt hb2 ?_ | apply own_al | apply own_dr)); omega)
        (by (repeat' (with_reducible first | refine mapsi_made ?_ | refine mapsi_lt hb2 ?_ | refine mapsi_lt hb1 ?_ | apply mapsi_al | apply mapsi_drew)); simp)
        (by rw [HHR.out]; (repeat' (with_reducible first | refine own_mono ho2 ?_ | apply own_al | apply own_dr)); omega)
        (by (repeat' (with_reducible first | refine blk_made ?_ | refine blk_lt hb2 ?_ | refine blk_lt hb1 ?_ | apply Blk.alloc | apply Blk.drew)); simp)
        (by repeat' (with_reducible first | exact Below.refl _ _ | refine below_lt hb2 ?_ | refine below_lt hb1 ?_ | apply Below.drew | apply below_al))
        (by omega)⟩
  case rest =>
    obtain ⟨g, mb, qE, vN, vR, rfl, hM⟩ := hcut
    have HM := Lib.hid hM
    clear hM hmm hmk
    go_wp2
    go_loopw [36] (fun i wr => ∃ k : Nat, k ≤ n ∧ i = .int .i64 k ∧ NewM w wr g mb qE n vN vR names roads k (nameF (names.take k)) (fun _ => .slice none 0 0) (fun _ => []) ∧ namesE [] names = namesE (names.take k) (names.drop k)) (fun i _ => n - (intOf i).toNat)
    case atStart => exact ⟨0, by omega, rfl, by rw [List.take_zero, show nameF [] = fun _ => none from by funext s; simp [nameF]]; exact HM.out, rfl⟩
    case round =>
      obtain ⟨k, hk, rfl, hM, hne⟩ := hrel
      have HM := Lib.hid hM; have HNE := Lib.hid hne
      clear hM hne
      by_cases hlt : k < n
      · have hkl : k < names.length := by rw [HNL.out]; exact hlt
        obtain ⟨ad, rfl, had, hcx⟩ := ReadS.at_ (k := k) (HN.out.below HM.out.below) hkl
        have hst := names_step names k hkl
        have hsz := HS.out names[k] (List.getElem_mem hkl)
        have hsn : names.take (k + 1) = names.take k ++ [names[k]] := List.take_succ_eq_append_getElem hkl
        generalize names[k] = x at hcx hst hsz hsn
        have HST := Lib.hid hst; have HSN := Lib.hid hsn
        clear hst hsn
        have hbad : ∀ v, v ≠ 0 → nameE (names.take k) x = v → newE names roads = v := by
          intro v h0 hv
          have e1 : namesE [] names = v := by rw [HNE.out, HST.out, if_neg (by rw [hv]; exact h0), hv]
          rw [HE.out, if_neg (by rw [e1]; exact h0), e1]
        have HBAD := Lib.hid hbad
        clear hbad
        by_cases hx0 : x.data.toList = []
        · have hxe : x.toList = [] := by rw [Lib.toList_data]; exact hx0
          have HX := Lib.hid hx0
          clear hx0
          go_wp2
          go_ret2
          exact newPost_bad (HBAD.out 15 (by decide) (by unfold nameE; rw [if_pos (okName_nil HX.out)])) (by decide) HM.out.below
        · have hxe : x.toList.isEmpty = false := by rw [Lib.toList_data, List.isEmpty_eq_false_iff]; exact hx0
          have hxe2 : (x.toList == []) = false := by rw [Lib.toList_data, beq_eq_false_iff_ne]; exact hx0
          have hxe3 : ¬ x.toList = [] := by rw [Lib.toList_data]; exact hx0
          have HX := Lib.hid hx0
          clear hx0
          by_cases hx2 : 24 < x.size
          · have hx2I : (24 : Int) < (x.size : Int) := by omega
            have HX2 := Lib.hid hx2
            clear hx2
            go_wp2
            go_ret2
            exact newPost_bad (HBAD.out 15 (by decide) (by unfold nameE; rw [if_pos (okName_long HX2.out)])) (by decide) HM.out.below
          · have hx2I : ¬ (24 : Int) < (x.size : Int) := by omega
            have hx2d : decide ((24 : Int) < (x.size : Int)) = false := decide_eq_false hx2I
            have hcall := trimN_any x wr hsz
            have HX2 := Lib.hid hx2
            clear hx2
            go_wp2_with fail
            refine hcall.mono ?_
            rintro e w1 ⟨t, rfl, ht, hb1⟩
            cases hall : x.data.toList.all okByte
            · have hte : ¬ t.toList = [] := by rw [Lib.toList_data]; intro h; rw [ht.1 h] at hall; cases hall
              have hte2 : t.toList.isEmpty = false := by rw [List.isEmpty_eq_false_iff]; exact hte
              have hte3 : (t.toList == []) = false := by rw [beq_eq_false_iff_ne]; exact hte
              have HALL := Lib.hid hall; have HB1 := Lib.hid (HM.out.below.trans (hb1.mono HM.out.below.size))
              clear ht hall hb1 hcall
              go_wp2
              go_ret2
              exact newPost_bad (HBAD.out 15 (by decide) (by unfold nameE; rw [if_pos (okName_byte HALL.out)])) (by decide) HB1.out
            · have hte : t.toList = [] := by rw [Lib.toList_data]; exact ht.2 hall
              have hok := okName_yes HX.out HX2.out hall
              have hM1 := HM.out.later hb1
              have hlk := MapSI.look hM1.mp x hsz
              have hc1 := hM1.blk.cell 1
              simp only [List.getElem?_toArray, List.getElem?_cons_zero, List.getElem?_cons_succ] at hc1
              have HOK := Lib.hid hok; have HM1 := Lib.hid hM1
              clear ht hall hb1 hcall hok hM1
              rw [nameF_some] at hlk
              cases hh : hasName (names.take k) x
              · rw [hh] at hlk
                have HH := Lib.hid hh
                clear hh
                have hfn : (fun t => if t = x then some (k : Int) else nameF (names.take k) t) = nameF (names.take (k + 1)) := by
                  rw [HSN.out, nameF_snoc HH.out, List.length_take, Nat.min_eq_left (Nat.le_of_lt hkl)]
                have HFN := Lib.hid hfn
                clear hfn
                go_wp2_with (at_mapUpdate; refine wpList_putSI rfl (.tmp 66) (.tmp 67) (.tmp 68) rfl mb k (nameF (names.take k)) rfl HM1.out.mp (by unfold maxLen; omega) x hsz k (WalkArith.wf_i64 (by omega)) rfl rfl ?_; intro w3 hmap3 hg3; have HM3 := Lib.hid (HM1.out.name hmap3 hg3); clear hmap3 hg3)
                go_roundw
                case rel => exact ⟨k + 1, by omega, by go_num, by rw [← HFN.out]; exact HM3.out, by rw [HNE.out, HST.out, if_pos (by unfold nameE; rw [if_neg (by rw [HOK.out]; decide), if_neg (by rw [HH.out]; decide)])]⟩
                case measure => simp [intOf]; omega
              · rw [hh] at hlk
                have HH := Lib.hid hh
                clear hh
                go_wp2
                go_ret2
                exact newPost_bad (HBAD.out 6 (by decide) (by unfold nameE; rw [if_neg (by rw [HOK.out]; decide), if_pos HH.out])) (by decide) HM1.out.below
      · obtain rfl : k = n := by omega
        have hnames : namesE [] names = 0 := by rw [HNE.out, List.drop_eq_nil_of_le (by rw [HNL.out]; exact Nat.le_refl _)]; rfl
        have hM0 := HM.out
        rw [List.take_of_length_le (by rw [HNL.out]; exact Nat.le_refl _)] at hM0
        have HE2 := Lib.hid (show newE names roads = roadsE k [] roads by rw [HE.out, if_pos hnames])
        have HM0 := Lib.hid hM0
        have hk128 : k ≤ 128 := by omega
        clear hM0 hnames hbig hbd HM HNE
        go_wp2
        go_loopg [72] m (fun q j wr => ∃ (i : Nat) (us : Nat → Value) (near : Nat → List (Nat × Int)), i + q = m ∧ j = .int .i64 i ∧ NewM w wr g mb qE k vN vR names roads k (nameF names) us near ∧ (∀ q, q < k → near q = (nearU k (roads.take i)).getD q []) ∧ (∀ x ∈ roads.take i, Okr k x) ∧ Apart2 (roads.take i) ∧ roadsE k [] roads = roadsE k (roads.take i) (roads.drop i))
        case atStart => exact ⟨0, _, _, by omega, rfl, HM0.out, fun q hq => by rw [List.take_zero]; unfold nearU; rw [List.foldl_nil, List.getD_eq_getElem?_getD, List.getElem?_replicate, if_pos hq]; rfl, (fun x hx => by rw [List.take_zero] at hx; cases hx), List.Pairwise.nil, rfl⟩
        case round =>
          obtain ⟨i, us, near, hi, rfl, hM, hnear, hok, hap, hre⟩ := hrel
          have HM := Lib.hid hM; have HNR := Lib.hid hnear; have HOKR := Lib.hid hok; have HAP := Lib.hid hap; have HRE := Lib.hid hre
          clear hM hnear hok hap hre HM0
          by_cases hlt2 : i < m
          · have hil : i < roads.length := by rw [HRL.out]; exact hlt2
            have hst := roads_step k roads i hil
            have hsn : roads.take (i + 1) = roads.take i ++ [roads[i]] := List.take_succ_eq_append_getElem hil
            obtain ⟨bd, rfl, hbd', hcell⟩ := HR.out.2 (by omega)
            have hg0 := flatMap_get roadV 3 (fun _ => rfl) roads (i * 3) (by omega)
            have hg1 := flatMap_get roadV 3 (fun _ => rfl) roads (i * 3 + 1) (by omega)
            have hg2 := flatMap_get roadV 3 (fun _ => rfl) roads (i * 3 + 2) (by omega)
            rw [show i * 3 / 3 = i by omega, show i * 3 % 3 = 0 by omega, getElem!_pos roads i hil] at hg0
            rw [show (i * 3 + 1) / 3 = i by omega, show (i * 3 + 1) % 3 = 1 by omega, getElem!_pos roads i hil] at hg1
            rw [show (i * 3 + 2) / 3 = i by omega, show (i * 3 + 2) % 3 = 2 by omega, getElem!_pos roads i hil] at hg2
            have hc0 := (HM.out.below.cell (p := bd.add (i * 3)) (by rw [block_of_add]; exact hbd')).trans (hcell _ _ hg0)
            have hc1 := (HM.out.below.cell (p := bd.add (i * 3 + 1)) (by rw [block_of_add]; exact hbd')).trans (hcell _ _ hg1)
            have hc2 := (HM.out.below.cell (p := bd.add (i * 3 + 2)) (by rw [block_of_add]; exact hbd')).trans (hcell _ _ hg2)
            generalize roads[i] = x at hst hsn hc0 hc1 hc2
            obtain ⟨xa, xb, xl⟩ := x
            have HST := Lib.hid hst; have HSN := Lib.hid hsn
            clear hg0 hg1 hg2 hcell hst hsn
            simp only [roadV, List.getElem!_cons_zero, List.getElem!_cons_succ] at hc0 hc1 hc2
            rw [add_next bd (i * 3) 0] at hc1
            rw [add_next bd (i * 3) 1] at hc2
            have hbad : ∀ v, v ≠ 0 → roadE k (roads.take i) (xa, xb, xl) = v → newE names roads = v := by
              intro v h0 hv
              rw [HE2.out, HRE.out, HST.out, if_neg (by rw [hv]; exact h0), hv]
            have HBAD := Lib.hid hbad
            clear hbad
            have hW := HM.out.alloc (.cells #[.int .i64 xa, .int .i64 xb, .int .i64 xl] 71)
            have hxb := Blk.new wr 71 #[.int .i64 xa, .int .i64 xb, .int .i64 xl]
            have HW := Lib.hid hW; have HXB := Lib.hid hxb
            clear hW hxb
            obtain ⟨rng, hrng⟩ : ∃ rng, decide (xa < 0 ∨ (k : Int) ≤ xa ∨ xb < 0 ∨ (k : Int) ≤ xb) = rng := ⟨_, rfl⟩
            have HRNG := Lib.hid hrng
            clear hrng
            go_upto_region 18 with fail
            go_cut [76] (fun b wx => b = .bool rng ∧ wx = wr.alloc (.cells #[.int .i64 xa, .int .i64 xb, .int .i64 xl] 71))
            case first =>
              go_wp2_with fail
              all_goals
                go_meet
                refine ⟨?_, rfl⟩
                rw [← HRNG.out]
                congr 1
                first
                  | (rw [eq_comm, decide_eq_true_iff]; omega)
                  | (rw [eq_comm, decide_eq_false_iff_not]; omega)
                  | (rw [← Bool.decide_or, decide_eq_decide]; omega)
            case rest =>
              obtain ⟨rfl, rfl⟩ := hcut
              have hc0' := HXB.out.cell 0
              have hc1' := HXB.out.cell 1
              have hc2' := HXB.out.cell 2
              simp only [List.getElem?_toArray, List.getElem?_cons_zero, List.getElem?_cons_succ] at hc0' hc1' hc2'
              generalize wr.alloc (.cells #[.int .i64 xa, .int .i64 xb, .int .i64 xl] 71) = W at *
              clear hc0 hc1 hc2
              cases rng
              · have hr0 := of_decide_eq_false HRNG.out
                have hr1 : 0 ≤ xa ∧ xa < k ∧ 0 ≤ xb ∧ xb < k := by omega
                obtain ⟨ra0, ra1, rb0, rb1⟩ := hr1
                clear hr0
                by_cases hab : xa = xb
                · go_wp2
                  go_ret2
                  exact newPost_bad (HBAD.out 9 (by decide) (by unfold roadE; rw [if_neg (by simp only; omega), if_pos hab])) (by decide) HW.out.below
                · have habI : (xa == xb) = false := by rw [beq_eq_false_iff_ne]; exact hab
                  by_cases hl1 : xl < 1
                  · go_wp2
                    go_ret2
                    exact newPost_bad (HBAD.out 2 (by decide) (by unfold roadE; rw [if_neg (by simp only; omega), if_neg hab, if_pos (.inl hl1)])) (by decide) HW.out.below
                  · have hl1d : decide (xl < 1) = false := decide_eq_false hl1
                    by_cases hl2 : 1073741824 < xl
                    · go_wp2
                      go_ret2
                      exact newPost_bad (HBAD.out 2 (by decide) (by unfold roadE; rw [if_neg (by simp only; omega), if_neg hab, if_pos (.inr hl2)])) (by decide) HW.out.below
                    · have hl2d : decide (1073741824 < xl) = false := decide_eq_false hl2
                      obtain ⟨a, rfl⟩ : ∃ a : Nat, xa = a := ⟨xa.toNat, by omega⟩
                      obtain ⟨b, rfl⟩ : ∃ b : Nat, xb = b := ⟨xb.toNat, by omega⟩
                      have hak : a < k := by omega
                      have hbk : b < k := by omega
                      have hrow := HW.out.nr.rows a hak
                      have hna := HNR.out a hak
                      have hfewa := nearU_few _ HOKR.out HAP.out a
                      rw [← hna] at hfewa
                      have hct := contains_any (a : Int) (b : Int) xl W.drew HXB.out.drew (own_dr hrow) (by omega)
                      have hch := contains_has _ HOKR.out a b xl
                      rw [← hna] at hch
                      rw [hch] at hct
                      have hcg := HW.out.blk.cell 3
                      have hcq := HW.out.nr.cell hak
                      simp only [List.getElem?_toArray, List.getElem?_cons_zero, List.getElem?_cons_succ] at hcg
                      obtain ⟨Aa, ca, hua, _, _⟩ := ownsRow_form hrow
                      rw [hua] at hct hcq
                      obtain ⟨na, hnl⟩ : ∃ na, (near a).length = na := ⟨_, rfl⟩
                      rw [hnl] at hct hcq hua hfewa
                      have HNLA := Lib.hid hnl
                      have HUA := Lib.hid hua; have HNA := Lib.hid hna; have HCH := Lib.hid hch; have HFA := Lib.hid hfewa
                      clear hrow hna hfewa hch hua hnl
                      go_upto_region 24 with fail
                      refine region_tail 9 (by kernel_rfl) (by kernel_rfl) ?_
                      simp only [List.take_succ_cons, List.take_zero, List.drop_succ_cons, List.drop_zero]
                      still_step
                      still_step
                      still_step
                      still_step
                      still_step
                      still_step
                      still_step
                      still_step
                      still_step
                      refine wpStill_nil ?_
                      cases hrd : hasRoad (roads.take i) ((a : Int), (b : Int), xl)
                      · rw [hrd] at hct
                        have HRD := Lib.hid hrd
                        clear hrd
                        go_wp2_with fail
                        refine hct.mono ?_
                        rintro e W2 ⟨rfl, hb2⟩
                        have hM2 := HW.out.drew.later hb2
                        have hx2 := HXB.out.drew.below hb2 HXB.out.lt
                        have HM2 := Lib.hid hM2; have HX2 := Lib.hid hx2
                        clear hM2 hx2 hb2 hct hcg hcq hc0' hc1' hc2'
                        obtain ⟨W3, hW3⟩ : ∃ W3, W2 = W3 := ⟨_, rfl⟩
                        have hcg := HM2.out.blk.cell 3
                        have hcq := HM2.out.nr.cell hak
                        have hca := HX2.out.cell 0
                        have hcb := HX2.out.cell 1
                        have hcl := HX2.out.cell 2
                        have hfz := HM2.out.nr.row.frozen a
                        simp only [List.getElem?_toArray, List.getElem?_cons_zero, List.getElem?_cons_succ] at hcg hca hcb hcl
                        have hrow := HM2.out.nr.rows a hak
                        have hnal : na ≤ 128 := Nat.le_trans HFA.out hk128
                        obtain ⟨i2, hi2, hz20, hz21, hz22⟩ := info_parts (show (Tryd.prog.info? 106).map (fun i => (i.zero, i.size, i.bytes)) = some (some (.agg #[.int .i64 0, .int .i64 0]), 2, 16) by kernel_rfl)
                        have hakI : (a : Int) < (k : Int) := by omega
                        have hbkI : (b : Int) < (k : Int) := by omega
                        rw [HNLA.out, HUA.out] at hrow
                        rw [HUA.out] at hcq
                        have HROW2 := Lib.hid hrow
                        clear hrow hW3
                        have hcgA := (HM2.out.blk.alloc (.cells #[.int .i64 (b : Int), .int .i64 xl] 106)).cell 3
                        have hcqA := (Blk.cell (HM2.out.nr.row.alloc (.cells #[.int .i64 (b : Int), .int .i64 xl] 106)) a).trans (usA_get us hak)
                        have hcaA := (HX2.out.alloc (.cells #[.int .i64 (b : Int), .int .i64 xl] 106)).cell 0
                        have hcbA := (HX2.out.alloc (.cells #[.int .i64 (b : Int), .int .i64 xl] 106)).cell 1
                        have hclA := (HX2.out.alloc (.cells #[.int .i64 (b : Int), .int .i64 xl] 106)).cell 2
                        simp only [List.getElem?_toArray, List.getElem?_cons_zero, List.getElem?_cons_succ] at hcgA hcaA hcbA hclA
                        rw [HUA.out] at hcqA
                        go_upto_region 26 with fail
                        go_cut [] (fun wx => ∃ us' , NewM w wx g mb qE k vN vR names roads k (nameF names) us' (setU near a (near a ++ [(b, xl)])) ∧ Blk wx wr.heap.size 71 #[.int .i64 (a : Int), .int .i64 (b : Int), .int .i64 xl])
                        case first =>
                          refine wp_region_held_drew (S := (fun w' => w'.cell? ⟨g, 3, none⟩ = some (.slice (some ⟨qE, 0, none⟩) k k) ∧ w'.cell? ⟨wr.heap.size, 0, none⟩ = some (.int .i64 (a : Int)) ∧ w'.cell? ⟨wr.heap.size, 1, none⟩ = some (.int .i64 (b : Int)) ∧ w'.cell? ⟨wr.heap.size, 2, none⟩ = some (.int .i64 xl))) (by kernel_rfl) ?_ (fun hHeld => ?_)
                          · (try dsimp only)
                            (first | exact ⟨hcg, hca, hcb, hcl⟩ | exact ⟨hcgA, hcaA, hcbA, hclA⟩ | exact ⟨k1c, kxc, kxd, kxe⟩ | exact ⟨m1c, mxc, mxd, mxe⟩)
                          refine wpAnyH_take (i := 0) (v := ?_) rfl (by kernel_rfl) (by kernel_rfl) (by kernel_rfl) (fun _ _ _ h => h) (Or.inl ⟨by rfl, ?_⟩) (by assumption) ?_
                          rotate_left
                          · intro w hSw
                            (try dsimp only at hSw)
                            go_simp <;> with_reducible rfl
                          try simp only [Act.put, List.setIfInBounds_toArray, List.set_cons_zero, List.set_cons_succ]
                          refine wpAnyH_take (i := 1) (v := ?_) rfl (by kernel_rfl) (by kernel_rfl) (by kernel_rfl) (fun _ _ _ h => h) (Or.inl ⟨by rfl, ?_⟩) (by assumption) ?_
                          rotate_left
                          · intro w hSw
                            (try dsimp only at hSw)
                            go_simp <;> with_reducible rfl
                          try simp only [Act.put, List.setIfInBounds_toArray, List.set_cons_zero, List.set_cons_succ]
                          refine wpAnyH_take (i := 2) (v := ?_) rfl (by kernel_rfl) (by kernel_rfl) (by kernel_rfl) (fun _ _ _ h => h) (Or.inl ⟨by rfl, ?_⟩) (by assumption) ?_
                          rotate_left
                          · intro w hSw
                            (try dsimp only at hSw)
                            go_simp <;> with_reducible rfl
                          try simp only [Act.put, List.setIfInBounds_toArray, List.set_cons_zero, List.set_cons_succ]
                          refine wpAnyH_take (i := 3) (v := ?_) rfl (by kernel_rfl) (by kernel_rfl) (by kernel_rfl) (fun _ _ _ h => h) (Or.inl ⟨by rfl, ?_⟩) (by assumption) ?_
                          rotate_left
                          · intro w hSw
                            (try dsimp only at hSw)
                            go_simp <;> with_reducible rfl
                          try simp only [Act.put, List.setIfInBounds_toArray, List.set_cons_zero, List.set_cons_succ]
                          refine wpAnyH_take (i := 4) (v := ?_) rfl (by kernel_rfl) (by kernel_rfl) (by kernel_rfl) (fun _ _ _ h => h) (Or.inl ⟨by rfl, ?_⟩) (by assumption) ?_
                          rotate_left
                          · intro w hSw
                            (try dsimp only at hSw)
                            go_simp <;> with_reducible rfl
                          try simp only [Act.put, List.setIfInBounds_toArray, List.set_cons_zero, List.set_cons_succ]
                          refine wpAnyH_take (i := 5) (v := ?_) rfl (by kernel_rfl) (by kernel_rfl) (by kernel_rfl) (fun _ _ _ h => h) (Or.inl ⟨by rfl, ?_⟩) (by assumption) ?_
                          rotate_left
                          · intro w hSw
                            (try dsimp only at hSw)
                            go_simp <;> with_reducible rfl
                          try simp only [Act.put, List.setIfInBounds_toArray, List.set_cons_zero, List.set_cons_succ]
                          refine wpAnyH_take (i := 6) (v := ?_) rfl (by kernel_rfl) (by kernel_rfl) (by kernel_rfl) (fun _ _ _ h => h) (Or.inl ⟨by rfl, ?_⟩) (by assumption) ?_
                          rotate_left
                          · intro w hSw
                            (try dsimp only at hSw)
                            go_simp <;> with_reducible rfl
                          try simp only [Act.put, List.setIfInBounds_toArray, List.set_cons_zero, List.set_cons_succ]
                          refine wpAnyH_take (i := 7) (v := ?_) rfl (by kernel_rfl) (by kernel_rfl) (by kernel_rfl) (fun _ _ _ h => h) (Or.inl ⟨by rfl, ?_⟩) (by assumption) ?_
                          rotate_left
                          · intro w hSw
                            (try dsimp only at hSw)
                            go_simp <;> with_reducible rfl
                          try simp only [Act.put, List.setIfInBounds_toArray, List.set_cons_zero, List.set_cons_succ]
                          refine wpAnyH_take (i := 8) (v := ?_) rfl (by kernel_rfl) (by kernel_rfl) (by kernel_rfl) (fun _ _ _ h => h) (Or.inl ⟨by rfl, ?_⟩) (by assumption) ?_
                          rotate_left
                          · intro w hSw
                            (try dsimp only at hSw)
                            go_simp <;> with_reducible rfl
                          try simp only [Act.put, List.setIfInBounds_toArray, List.set_cons_zero, List.set_cons_succ]
                          refine wpAnyH_take (i := 9) (v := ?_) rfl (by kernel_rfl) (by kernel_rfl) (by kernel_rfl) (fun _ _ _ h => h) (Or.inl ⟨by rfl, ?_⟩) (by assumption) ?_
                          rotate_left
                          · intro w hSw
                            (try dsimp only at hSw)
                            go_simp <;> with_reducible rfl
                          try simp only [Act.put, List.setIfInBounds_toArray, List.set_cons_zero, List.set_cons_succ]
                          refine wpAnyH_take (i := 10) (v := ?_) rfl (by kernel_rfl) (by kernel_rfl) (by kernel_rfl) (fun _ _ _ h => h) (Or.inl ⟨by rfl, ?_⟩) (by assumption) ?_
                          rotate_left
                          · intro w hSw
                            (try dsimp only at hSw)
                            go_simp <;> with_reducible rfl
                          try simp only [Act.put, List.setIfInBounds_toArray, List.set_cons_zero, List.set_cons_succ]
                          refine wpAnyH_take (i := 11) (v := ?_) rfl (by kernel_rfl) (by kernel_rfl) (by kernel_rfl) (fun _ _ _ h => h) (Or.inl ⟨by rfl, ?_⟩) (by assumption) ?_
                          rotate_left
                          · intro w hSw
                            (try dsimp only at hSw)
                            go_simp <;> with_reducible rfl
                          try simp only [Act.put, List.setIfInBounds_toArray, List.set_cons_zero, List.set_cons_succ]
                          refine wpAnyH_take (i := 12) (v := ?_) rfl (by kernel_rfl) (by kernel_rfl) (by kernel_rfl) (fun _ _ _ h => h) (Or.inl ⟨by rfl, ?_⟩) (by assumption) ?_
                          rotate_left
                          · intro w hSw
                            (try dsimp only at hSw)
                            go_simp <;> with_reducible rfl
                          try simp only [Act.put, List.setIfInBounds_toArray, List.set_cons_zero, List.set_cons_succ]
                          refine wpAnyH_take (i := 14) (v := ?_) rfl (by kernel_rfl) (by kernel_rfl) (by kernel_rfl) (fun _ _ _ h => h) (Or.inl ⟨by rfl, ?_⟩) (by assumption) ?_
                          rotate_left
                          · intro w hSw
                            (try dsimp only at hSw)
                            go_simp <;> with_reducible rfl
                          try simp only [Act.put, List.setIfInBounds_toArray, List.set_cons_zero, List.set_cons_succ]
                          refine wpAnyH_take (i := 15) (v := ?_) rfl (by kernel_rfl) (by kernel_rfl) (by kernel_rfl) (fun _ _ _ h => h) (Or.inl ⟨by rfl, ?_⟩) (by assumption) ?_
                          rotate_left
                          · intro w hSw
                            (try dsimp only at hSw)
                            go_simp <;> with_reducible rfl
                          try simp only [Act.put, List.setIfInBounds_toArray, List.set_cons_zero, List.set_cons_succ]
                          refine wpAnyH_take (i := 16) (v := ?_) rfl (by kernel_rfl) (by kernel_rfl) (by kernel_rfl) (fun _ _ _ h => h) (Or.inl ⟨by rfl, ?_⟩) (by assumption) ?_
                          rotate_left
                          · intro w hSw
                            (try dsimp only at hSw)
                            go_simp <;> with_reducible rfl
                          try simp only [Act.put, List.setIfInBounds_toArray, List.set_cons_zero, List.set_cons_succ]
                          refine wpAnyH_take (i := 17) (v := ?_) rfl (by kernel_rfl) (by kernel_rfl) (by kernel_rfl) (fun _ _ _ h => h) (Or.inl ⟨by rfl, ?_⟩) (by assumption) ?_
                          rotate_left
                          · intro w hSw
                            (try dsimp only at hSw)
                            go_simp <;> with_reducible rfl
                          try simp only [Act.put, List.setIfInBounds_toArray, List.set_cons_zero, List.set_cons_succ]
                          refine wpAnyH_take (i := 18) (v := ?_) rfl (by kernel_rfl) (by kernel_rfl) (by kernel_rfl) (fun _ _ _ h => h) (Or.inl ⟨by rfl, ?_⟩) (by assumption) ?_
                          rotate_left
                          · intro w hSw
                            (try dsimp only at hSw)
                            go_simp <;> with_reducible rfl
                          try simp only [Act.put, List.setIfInBounds_toArray, List.set_cons_zero, List.set_cons_succ]
                          refine wpAnyH_ready (rs := [13, 19]) (by kernel_rfl) (by simp) ?_
                          refine AllReadyH.cons rfl (fun K hK => ?_) (AllReadyH.cons rfl (fun K hK => ?_) AllReadyH.nil)
                          rotate_left
                          go_simp
                          refine hK.out _ _ ?_ (fun hHeld' => ?_)
                          · (try dsimp only)
                            (first | exact ⟨hcg, hca, hcb, hcl⟩ | exact ⟨hcgA, hcaA, hcbA, hclA⟩ | exact ⟨k1c, kxc, kxd, kxe⟩ | exact ⟨m1c, mxc, mxd, mxe⟩)
                          clear hK K hHeld
                          have hHeld := hHeld'
                          clear hHeld'
                          refine wpAnyH_ready (rs := [13]) (by kernel_rfl) (by simp) ?_
                          refine AllReadyH.cons rfl (fun K hK => ?_) AllReadyH.nil
                          go_simp
                          refine hK.out _ _ ?_ (fun hHeld' => ?_)
                          · (try dsimp only)
                            (first | exact ⟨hcg, hca, hcb, hcl⟩ | exact ⟨hcgA, hcaA, hcbA, hclA⟩ | exact ⟨k1c, kxc, kxd, kxe⟩ | exact ⟨m1c, mxc, mxd, mxe⟩)
                          clear hK K hHeld
                          have hHeld := hHeld'
                          clear hHeld'
                          refine wpAnyH_ready (rs := [20]) (by kernel_rfl) (by simp) ?_
                          refine AllReadyH.cons rfl (fun K hK => ?_) AllReadyH.nil
                          (first | (refine step_append_any _ rfl (.tmp 131) (.tmp 137) 104 rfl w.heap.size 106 i2 (.agg #[.int .i64 0, .int .i64 0]) 2 16 Tryd.underlying104 hi2 hz20 hz21 hz22 rfl (by decide) (.slice Aa na ca) na ((near a).flatMap endV) (by simp [Act.eval, Act.put]) (own_al HROW2.out _) (W2.heap.size + 1) (some ⟨W2.heap.size, 0, none⟩) 1 1 [.int .i64 (b : Int), .int .i64 xl] (by simp [Act.eval, Act.put]) (reads_new2 _ _ _ _) (by simp [Value.oneCell']) (by unfold maxLen; omega) (by omega) (by have := HM2.out.below.size; simp; omega) ?_; intro v' w7 hown' hgrow hx7; obtain ⟨A7, c7, rfl, _, _⟩ := ownsRow_form hown'; have k1 := ((HM2.out.blk.alloc (.cells #[.int .i64 (b : Int), .int .i64 xl] 106)).drew).grown hgrow (fun e => own_blk_ne (own_dr (own_al HROW2.out _)) ((HM2.out.blk.alloc (.cells #[.int .i64 (b : Int), .int .i64 xl] 106)).drew) (by decide) e.symm); have kx := ((HX2.out.alloc (.cells #[.int .i64 (b : Int), .int .i64 xl] 106)).drew).grown hgrow (fun e => own_blk_ne (own_dr (own_al HROW2.out _)) ((HX2.out.alloc (.cells #[.int .i64 (b : Int), .int .i64 xl] 106)).drew) (by decide) e.symm); have kq := ((HM2.out.nr.row.alloc (.cells #[.int .i64 (b : Int), .int .i64 xl] 106)).drew).grown hgrow (fun e => own_blk_ne (own_dr (own_al HROW2.out _)) ((HM2.out.nr.row.alloc (.cells #[.int .i64 (b : Int), .int .i64 xl] 106)).drew) (by decide) e.symm); have k1c := k1.cell 3; have kxc := kx.cell 0; have kxd := kx.cell 1; have kxe := kx.cell 2; have m1c := (k1.far (p := ⟨qE, a, none⟩) (Blk.ne_ k1 kq (by decide)) (.slice A7 (na + 1) c7)).cell 3; have mxc := (kx.far (p := ⟨qE, a, none⟩) (Blk.ne_ kx kq (by decide)) (.slice A7 (na + 1) c7)).cell 0; have mxd := (kx.far (p := ⟨qE, a, none⟩) (Blk.ne_ kx kq (by decide)) (.slice A7 (na + 1) c7)).cell 1; have mxe := (kx.far (p := ⟨qE, a, none⟩) (Blk.ne_ kx kq (by decide)) (.slice A7 (na + 1) c7)).cell 2; have kqf := kq.frozen a; have kqc := (Blk.cell kq a).trans (usA_get us hak); have HKX := Lib.hid kx; have HG7 := Lib.hid hgrow; have HO7 := Lib.hid hown'; have HX7 := Lib.hid hx7; have HKQ := Lib.hid kq; clear k1 kx kq hgrow hown' hx7; simp only [List.getElem?_toArray, List.getElem?_cons_zero, List.getElem?_cons_succ] at k1c kxc kxd kxe m1c mxc mxd mxe; rw [HUA.out] at kqc))
                          refine hK.out _ _ ?_ (fun hHeld' => ?_)
                          · (try dsimp only)
                            (first | exact ⟨hcg, hca, hcb, hcl⟩ | exact ⟨hcgA, hcaA, hcbA, hclA⟩ | exact ⟨k1c, kxc, kxd, kxe⟩ | exact ⟨m1c, mxc, mxd, mxe⟩)
                          clear hK K hHeld
                          have hHeld := hHeld'
                          clear hHeld'
                          refine wpAnyH_take (i := 21) (v := ?_) rfl (by kernel_rfl) (by kernel_rfl) (by kernel_rfl) (fun _ _ _ h => h) (Or.inl ⟨by rfl, ?_⟩) (by assumption) ?_
                          rotate_left
                          · intro w hSw
                            (try dsimp only at hSw)
                            go_simp <;> with_reducible rfl
                          try simp only [Act.put, List.setIfInBounds_toArray, List.set_cons_zero, List.set_cons_succ]
                          refine wpAnyH_ready (rs := [22]) (by kernel_rfl) (by simp) ?_
                          refine AllReadyH.cons rfl (fun K hK => ?_) AllReadyH.nil
                          go_simp
                          refine hK.out _ _ ?_ (fun hHeld' => ?_)
                          · (try dsimp only)
                            (first | exact ⟨hcg, hca, hcb, hcl⟩ | exact ⟨hcgA, hcaA, hcbA, hclA⟩ | exact ⟨k1c, kxc, kxd, kxe⟩ | exact ⟨m1c, mxc, mxd, mxe⟩)
                          clear hK K hHeld
                          have hHeld := hHeld'
                          clear hHeld'
                          refine wpAnyH_done (by kernel_rfl) ?_ _
                          rotate_left
                          go_simp
                          refine hK.out _ _ ?_ (fun hHeld' => ?_)
                          · (try dsimp only)
                            (first | exact ⟨hcg, hca, hcb, hcl⟩ | exact ⟨hcgA, hcaA, hcbA, hclA⟩ | exact ⟨k1c, kxc, kxd, kxe⟩ | exact ⟨m1c, mxc, mxd, mxe⟩)
                          clear hK K hHeld
                          have hHeld := hHeld'
                          clear hHeld'
                          refine wpAnyH_ready (rs := [19]) (by kernel_rfl) (by simp) ?_
                          refine AllReadyH.cons rfl (fun K hK => ?_) AllReadyH.nil
                          go_simp
                          refine hK.out _ _ ?_ (fun hHeld' => ?_)
                          · (try dsimp only)
                            (first | exact ⟨hcg, hca, hcb, hcl⟩ | exact ⟨hcgA, hcaA, hcbA, hclA⟩ | exact ⟨k1c, kxc, kxd, kxe⟩ | exact ⟨m1c, mxc, mxd, mxe⟩)
                          clear hK K hHeld
                          have hHeld := hHeld'
                          clear hHeld'
                          refine wpAnyH_ready (rs := [20]) (by kernel_rfl) (by simp) ?_
                          refine AllReadyH.cons rfl (fun K hK => ?_) AllReadyH.nil
                          (first | (refine step_append_any _ rfl (.tmp 131) (.tmp 137) 104 rfl w.heap.size 106 i2 (.agg #[.int .i64 0, .int .i64 0]) 2 16 Tryd.underlying104 hi2 hz20 hz21 hz22 rfl (by decide) (.slice Aa na ca) na ((near a).flatMap endV) (by simp [Act.eval, Act.put]) (own_al HROW2.out _) (W2.heap.size + 1) (some ⟨W2.heap.size, 0, none⟩) 1 1 [.int .i64 (b : Int), .int .i64 xl] (by simp [Act.eval, Act.put]) (reads_new2 _ _ _ _) (by simp [Value.oneCell']) (by unfold maxLen; omega) (by omega) (by have := HM2.out.below.size; simp; omega) ?_; intro v' w7 hown' hgrow hx7; obtain ⟨A7, c7, rfl, _, _⟩ := ownsRow_form hown'; have k1 := ((HM2.out.blk.alloc (.cells #[.int .i64 (b : Int), .int .i64 xl] 106)).drew).grown hgrow (fun e => own_blk_ne (own_dr (own_al HROW2.out _)) ((HM2.out.blk.alloc (.cells #[.int .i64 (b : Int), .int .i64 xl] 106)).drew) (by decide) e.symm); have kx := ((HX2.out.alloc (.cells #[.int .i64 (b : Int), .int .i64 xl] 106)).drew).grown hgrow (fun e => own_blk_ne (own_dr (own_al HROW2.out _)) ((HX2.out.alloc (.cells #[.int .i64 (b : Int), .int .i64 xl] 106)).drew) (by decide) e.symm); have kq := ((HM2.out.nr.row.alloc (.cells #[.int .i64 (b : Int), .int .i64 xl] 106)).drew).grown hgrow (fun e => own_blk_ne (own_dr (own_al HROW2.out _)) ((HM2.out.nr.row.alloc (.cells #[.int .i64 (b : Int), .int .i64 xl] 106)).drew) (by decide) e.symm); have k1c := k1.cell 3; have kxc := kx.cell 0; have kxd := kx.cell 1; have kxe := kx.cell 2; have m1c := (k1.far (p := ⟨qE, a, none⟩) (Blk.ne_ k1 kq (by decide)) (.slice A7 (na + 1) c7)).cell 3; have mxc := (kx.far (p := ⟨qE, a, none⟩) (Blk.ne_ kx kq (by decide)) (.slice A7 (na + 1) c7)).cell 0; have mxd := (kx.far (p := ⟨qE, a, none⟩) (Blk.ne_ kx kq (by decide)) (.slice A7 (na + 1) c7)).cell 1; have mxe := (kx.far (p := ⟨qE, a, none⟩) (Blk.ne_ kx kq (by decide)) (.slice A7 (na + 1) c7)).cell 2; have kqf := kq.frozen a; have kqc := (Blk.cell kq a).trans (usA_get us hak); have HKX := Lib.hid kx; have HG7 := Lib.hid hgrow; have HO7 := Lib.hid hown'; have HX7 := Lib.hid hx7; have HKQ := Lib.hid kq; clear k1 kx kq hgrow hown' hx7; simp only [List.getElem?_toArray, List.getElem?_cons_zero, List.getElem?_cons_succ] at k1c kxc kxd kxe m1c mxc mxd mxe; rw [HUA.out] at kqc))
                          refine hK.out _ _ ?_ (fun hHeld' => ?_)
                          · (try dsimp only)
                            (first | exact ⟨hcg, hca, hcb, hcl⟩ | exact ⟨hcgA, hcaA, hcbA, hclA⟩ | exact ⟨k1c, kxc, kxd, kxe⟩ | exact ⟨m1c, mxc, mxd, mxe⟩)
                          clear hK K hHeld
                          have hHeld := hHeld'
                          clear hHeld'
                          refine wpAnyH_take (i := 21) (v := ?_) rfl (by kernel_rfl) (by kernel_rfl) (by kernel_rfl) (fun _ _ _ h => h) (Or.inl ⟨by rfl, ?_⟩) (by assumption) ?_
                          rotate_left
                          · intro w hSw
                            (try dsimp only at hSw)
                            go_simp <;> with_reducible rfl
                          try simp only [Act.put, List.setIfInBounds_toArray, List.set_cons_zero, List.set_cons_succ]
                          refine wpAnyH_ready (rs := [22]) (by kernel_rfl) (by simp) ?_
                          refine AllReadyH.cons rfl (fun K hK => ?_) AllReadyH.nil
                          go_simp
                          refine hK.out _ _ ?_ (fun hHeld' => ?_)
                          · (try dsimp only)
                            (first | exact ⟨hcg, hca, hcb, hcl⟩ | exact ⟨hcgA, hcaA, hcbA, hclA⟩ | exact ⟨k1c, kxc, kxd, kxe⟩ | exact ⟨m1c, mxc, mxd, mxe⟩)
                          clear hK K hHeld
                          have hHeld := hHeld'
                          clear hHeld'
                          refine wpAnyH_done (by kernel_rfl) ?_ _
                          rotate_left
                          all_goals
                            go_wp2_with fail
                            go_meet
                            refine ⟨_, ((HM2.out.alloc (.cells #[.int .i64 (b : Int), .int .i64 xl] 106)).drew).push hak (by rw [HUA.out]; exact HG7.out) (by rw [List.length_append, HNLA.out, List.flatMap_append]; exact HO7.out) ?_, HKX.out.far (p := ⟨qE, a, none⟩) (Blk.ne_ HKX.out HKQ.out (by decide)) _⟩
                            rw [HUA.out]
                            rcases HX7.out with h | h
                            · exact .inl h
                            · exact .inr ⟨_, h, by first | exact Nat.le_refl _ | (rw [size_drew_, World.size_alloc]; exact Nat.le_refl _)⟩
                        case rest =>
                          obtain ⟨us2, hM5, hx5⟩ := hcut
                          have HM5 := Lib.hid hM5; have HX5 := Lib.hid hx5
                          clear hM5 hx5 hcg hcq hca hcb hcl hcgA hcqA hcaA hcbA hclA hfz HM2 HX2 HROW2 HUA HNLA
                          have hba : b ≠ a := fun e => hab (by rw [e])
                          have hcg := HM5.out.blk.cell 3
                          have hcq := HM5.out.nr.cell hbk
                          have hca := HX5.out.cell 0
                          have hcb := HX5.out.cell 1
                          have hcl := HX5.out.cell 2
                          have hfz := HM5.out.nr.row.frozen b
                          simp only [List.getElem?_toArray, List.getElem?_cons_zero, List.getElem?_cons_succ] at hcg hca hcb hcl
                          have hrow := HM5.out.nr.rows b hbk
                          rw [setU_other hba] at hrow
                          have hnb : (near b).length ≤ 128 := by
                            rw [HNR.out b hbk]
                            exact Nat.le_trans (nearU_few _ HOKR.out HAP.out b) hk128
                          obtain ⟨Ab, cb, hub, _, _⟩ := ownsRow_form hrow
                          obtain ⟨nb, hnbl⟩ : ∃ nb, (near b).length = nb := ⟨_, rfl⟩
                          rw [hub] at hcq hrow
                          rw [hnbl] at hcq hrow hub hnb
                          have HUB := Lib.hid hub; have HNLB := Lib.hid hnbl; have HROWB := Lib.hid hrow
                          clear hub hnbl hrow
                          have hcgA := (HM5.out.blk.alloc (.cells #[.int .i64 (a : Int), .int .i64 xl] 106)).cell 3
                          have hcqA := (Blk.cell (HM5.out.nr.row.alloc (.cells #[.int .i64 (a : Int), .int .i64 xl] 106)) b).trans (usA_get us2 hbk)
                          have hcaA := (HX5.out.alloc (.cells #[.int .i64 (a : Int), .int .i64 xl] 106)).cell 0
                          have hcbA := (HX5.out.alloc (.cells #[.int .i64 (a : Int), .int .i64 xl] 106)).cell 1
                          have hclA := (HX5.out.alloc (.cells #[.int .i64 (a : Int), .int .i64 xl] 106)).cell 2
                          simp only [List.getElem?_toArray, List.getElem?_cons_zero, List.getElem?_cons_succ] at hcgA hcaA hcbA hclA
                          rw [HUB.out] at hcqA
                          go_upto_region 27 with fail
                          refine wp_region_held_drew (S := (fun w' => w'.cell? ⟨g, 3, none⟩ = some (.slice (some ⟨qE, 0, none⟩) k k) ∧ w'.cell? ⟨wr.heap.size, 0, none⟩ = some (.int .i64 (a : Int)) ∧ w'.cell? ⟨wr.heap.size, 1, none⟩ = some (.int .i64 (b : Int)) ∧ w'.cell? ⟨wr.heap.size, 2, none⟩ = some (.int .i64 xl))) (by kernel_rfl) ?_ (fun hHeld => ?_)
                          · (try dsimp only)
                            (first | exact ⟨hcg, hca, hcb, hcl⟩ | exact ⟨hcgA, hcaA, hcbA, hclA⟩ | exact ⟨k1c, kxc, kxd, kxe⟩ | exact ⟨m1c, mxc, mxd, mxe⟩)
                          refine wpAnyH_take (i := 0) (v := ?_) rfl (by kernel_rfl) (by kernel_rfl) (by kernel_rfl) (fun _ _ _ h => h) (Or.inl ⟨by rfl, ?_⟩) (by assumption) ?_
                          rotate_left
                          · intro w hSw
                            (try dsimp only at hSw)
                            go_simp <;> with_reducible rfl
                          try simp only [Act.put, List.setIfInBounds_toArray, List.set_cons_zero, List.set_cons_succ]
                          refine wpAnyH_take (i := 1) (v := ?_) rfl (by kernel_rfl) (by kernel_rfl) (by kernel_rfl) (fun _ _ _ h => h) (Or.inl ⟨by rfl, ?_⟩) (by assumption) ?_
                          rotate_left
                          · intro w hSw
                            (try dsimp only at hSw)
                            go_simp <;> with_reducible rfl
                          try simp only [Act.put, List.setIfInBounds_toArray, List.set_cons_zero, List.set_cons_succ]
                          refine wpAnyH_take (i := 2) (v := ?_) rfl (by kernel_rfl) (by kernel_rfl) (by kernel_rfl) (fun _ _ _ h => h) (Or.inl ⟨by rfl, ?_⟩) (by assumption) ?_
                          rotate_left
                          · intro w hSw
                            (try dsimp only at hSw)
                            go_simp <;> with_reducible rfl
                          try simp only [Act.put, List.setIfInBounds_toArray, List.set_cons_zero, List.set_cons_succ]
                          refine wpAnyH_take (i := 3) (v := ?_) rfl (by kernel_rfl) (by kernel_rfl) (by kernel_rfl) (fun _ _ _ h => h) (Or.inl ⟨by rfl, ?_⟩) (by assumption) ?_
                          rotate_left
                          · intro w hSw
                            (try dsimp only at hSw)
                            go_simp <;> with_reducible rfl
                          try simp only [Act.put, List.setIfInBounds_toArray, List.set_cons_zero, List.set_cons_succ]
                          refine wpAnyH_take (i := 4) (v := ?_) rfl (by kernel_rfl) (by kernel_rfl) (by kernel_rfl) (fun _ _ _ h => h) (Or.inl ⟨by rfl, ?_⟩) (by assumption) ?_
                          rotate_left
                          · intro w hSw
                            (try dsimp only at hSw)
                            go_simp <;> with_reducible rfl
                          try simp only [Act.put, List.setIfInBounds_toArray, List.set_cons_zero, List.set_cons_succ]
                          refine wpAnyH_take (i := 5) (v := ?_) rfl (by kernel_rfl) (by kernel_rfl) (by kernel_rfl) (fun _ _ _ h => h) (Or.inl ⟨by rfl, ?_⟩) (by assumption) ?_
                          rotate_left
                          · intro w hSw
                            (try dsimp only at hSw)
                            go_simp <;> with_reducible rfl
                          try simp only [Act.put, List.setIfInBounds_toArray, List.set_cons_zero, List.set_cons_succ]
                          refine wpAnyH_take (i := 6) (v := ?_) rfl (by kernel_rfl) (by kernel_rfl) (by kernel_rfl) (fun _ _ _ h => h) (Or.inl ⟨by rfl, ?_⟩) (by assumption) ?_
                          rotate_left
                          · intro w hSw
                            (try dsimp only at hSw)
                            go_simp <;> with_reducible rfl
                          try simp only [Act.put, List.setIfInBounds_toArray, List.set_cons_zero, List.set_cons_succ]
                          refine wpAnyH_take (i := 7) (v := ?_) rfl (by kernel_rfl) (by kernel_rfl) (by kernel_rfl) (fun _ _ _ h => h) (Or.inl ⟨by rfl, ?_⟩) (by assumption) ?_
                          rotate_left
                          · intro w hSw
                            (try dsimp only at hSw)
                            go_simp <;> with_reducible rfl
                          try simp only [Act.put, List.setIfInBounds_toArray, List.set_cons_zero, List.set_cons_succ]
                          refine wpAnyH_take (i := 8) (v := ?_) rfl (by kernel_rfl) (by kernel_rfl) (by kernel_rfl) (fun _ _ _ h => h) (Or.inl ⟨by rfl, ?_⟩) (by assumption) ?_
                          rotate_left
                          · intro w hSw
                            (try dsimp only at hSw)
                            go_simp <;> with_reducible rfl
                          try simp only [Act.put, List.setIfInBounds_toArray, List.set_cons_zero, List.set_cons_succ]
                          refine wpAnyH_take (i := 9) (v := ?_) rfl (by kernel_rfl) (by kernel_rfl) (by kernel_rfl) (fun _ _ _ h => h) (Or.inl ⟨by rfl, ?_⟩) (by assumption) ?_
                          rotate_left
                          · intro w hSw
                            (try dsimp only at hSw)
                            go_simp <;> with_reducible rfl
                          try simp only [Act.put, List.setIfInBounds_toArray, List.set_cons_zero, List.set_cons_succ]
                          refine wpAnyH_take (i := 10) (v := ?_) rfl (by kernel_rfl) (by kernel_rfl) (by kernel_rfl) (fun _ _ _ h => h) (Or.inl ⟨by rfl, ?_⟩) (by assumption) ?_
                          rotate_left
                          · intro w hSw
                            (try dsimp only at hSw)
                            go_simp <;> with_reducible rfl
                          try simp only [Act.put, List.setIfInBounds_toArray, List.set_cons_zero, List.set_cons_succ]
                          refine wpAnyH_take (i := 11) (v := ?_) rfl (by kernel_rfl) (by kernel_rfl) (by kernel_rfl) (fun _ _ _ h => h) (Or.inl ⟨by rfl, ?_⟩) (by assumption) ?_
                          rotate_left
                          · intro w hSw
                            (try dsimp only at hSw)
                            go_simp <;> with_reducible rfl
                          try simp only [Act.put, List.setIfInBounds_toArray, List.set_cons_zero, List.set_cons_succ]
                          refine wpAnyH_take (i := 12) (v := ?_) rfl (by kernel_rfl) (by kernel_rfl) (by kernel_rfl) (fun _ _ _ h => h) (Or.inl ⟨by rfl, ?_⟩) (by assumption) ?_
                          rotate_left
                          · intro w hSw
                            (try dsimp only at hSw)
                            go_simp <;> with_reducible rfl
                          try simp only [Act.put, List.setIfInBounds_toArray, List.set_cons_zero, List.set_cons_succ]
                          refine wpAnyH_take (i := 14) (v := ?_) rfl (by kernel_rfl) (by kernel_rfl) (by kernel_rfl) (fun _ _ _ h => h) (Or.inl ⟨by rfl, ?_⟩) (by assumption) ?_
                          rotate_left
                          · intro w hSw
                            (try dsimp only at hSw)
                            go_simp <;> with_reducible rfl
                          try simp only [Act.put, List.setIfInBounds_toArray, List.set_cons_zero, List.set_cons_succ]
                          refine wpAnyH_take (i := 15) (v := ?_) rfl (by kernel_rfl) (by kernel_rfl) (by kernel_rfl) (fun _ _ _ h => h) (Or.inl ⟨by rfl, ?_⟩) (by assumption) ?_
                          rotate_left
                          · intro w hSw
                            (try dsimp only at hSw)
                            go_simp <;> with_reducible rfl
                          try simp only [Act.put, List.setIfInBounds_toArray, List.set_cons_zero, List.set_cons_succ]
                          refine wpAnyH_take (i := 16) (v := ?_) rfl (by kernel_rfl) (by kernel_rfl) (by kernel_rfl) (fun _ _ _ h => h) (Or.inl ⟨by rfl, ?_⟩) (by assumption) ?_
                          rotate_left
                          · intro w hSw
                            (try dsimp only at hSw)
                            go_simp <;> with_reducible rfl
                          try simp only [Act.put, List.setIfInBounds_toArray, List.set_cons_zero, List.set_cons_succ]
                          refine wpAnyH_take (i := 17) (v := ?_) rfl (by kernel_rfl) (by kernel_rfl) (by kernel_rfl) (fun _ _ _ h => h) (Or.inl ⟨by rfl, ?_⟩) (by assumption) ?_
                          rotate_left
                          · intro w hSw
                            (try dsimp only at hSw)
                            go_simp <;> with_reducible rfl
                          try simp only [Act.put, List.setIfInBounds_toArray, List.set_cons_zero, List.set_cons_succ]
                          refine wpAnyH_take (i := 18) (v := ?_) rfl (by kernel_rfl) (by kernel_rfl) (by kernel_rfl) (fun _ _ _ h => h) (Or.inl ⟨by rfl, ?_⟩) (by assumption) ?_
                          rotate_left
                          · intro w hSw
                            (try dsimp only at hSw)
                            go_simp <;> with_reducible rfl
                          try simp only [Act.put, List.setIfInBounds_toArray, List.set_cons_zero, List.set_cons_succ]
                          refine wpAnyH_ready (rs := [13, 19]) (by kernel_rfl) (by simp) ?_
                          refine AllReadyH.cons rfl (fun K hK => ?_) (AllReadyH.cons rfl (fun K hK => ?_) AllReadyH.nil)
                          rotate_left
                          go_simp
                          refine hK.out _ _ ?_ (fun hHeld' => ?_)
                          · (try dsimp only)
                            (first | exact ⟨hcg, hca, hcb, hcl⟩ | exact ⟨hcgA, hcaA, hcbA, hclA⟩ | exact ⟨k1c, kxc, kxd, kxe⟩ | exact ⟨m1c, mxc, mxd, mxe⟩)
                          clear hK K hHeld
                          have hHeld := hHeld'
                          clear hHeld'
                          refine wpAnyH_ready (rs := [13]) (by kernel_rfl) (by simp) ?_
                          refine AllReadyH.cons rfl (fun K hK => ?_) AllReadyH.nil
                          go_simp
                          refine hK.out _ _ ?_ (fun hHeld' => ?_)
                          · (try dsimp only)
                            (first | exact ⟨hcg, hca, hcb, hcl⟩ | exact ⟨hcgA, hcaA, hcbA, hclA⟩ | exact ⟨k1c, kxc, kxd, kxe⟩ | exact ⟨m1c, mxc, mxd, mxe⟩)
                          clear hK K hHeld
                          have hHeld := hHeld'
                          clear hHeld'
                          refine wpAnyH_ready (rs := [20]) (by kernel_rfl) (by simp) ?_
                          refine AllReadyH.cons rfl (fun K hK => ?_) AllReadyH.nil
                          (first | (refine step_append_any _ rfl (.tmp 153) (.tmp 159) 104 rfl w.heap.size 106 i2 (.agg #[.int .i64 0, .int .i64 0]) 2 16 Tryd.underlying104 hi2 hz20 hz21 hz22 rfl (by decide) (.slice Ab nb cb) nb ((near b).flatMap endV) (by simp [Act.eval, Act.put]) (own_al HROWB.out _) (wc.heap.size + 1) (some ⟨wc.heap.size, 0, none⟩) 1 1 [.int .i64 (a : Int), .int .i64 xl] (by simp [Act.eval, Act.put]) (reads_new2 _ _ _ _) (by simp [Value.oneCell']) (by unfold maxLen; omega) (by omega) (by have := HM5.out.below.size; simp; omega) ?_; intro v' w7 hown' hgrow hx7; obtain ⟨A7, c7, rfl, _, _⟩ := ownsRow_form hown'; have k1 := ((HM5.out.blk.alloc (.cells #[.int .i64 (a : Int), .int .i64 xl] 106)).drew).grown hgrow (fun e => own_blk_ne (own_dr (own_al HROWB.out _)) ((HM5.out.blk.alloc (.cells #[.int .i64 (a : Int), .int .i64 xl] 106)).drew) (by decide) e.symm); have kx := ((HX5.out.alloc (.cells #[.int .i64 (a : Int), .int .i64 xl] 106)).drew).grown hgrow (fun e => own_blk_ne (own_dr (own_al HROWB.out _)) ((HX5.out.alloc (.cells #[.int .i64 (a : Int), .int .i64 xl] 106)).drew) (by decide) e.symm); have kq := ((HM5.out.nr.row.alloc (.cells #[.int .i64 (a : Int), .int .i64 xl] 106)).drew).grown hgrow (fun e => own_blk_ne (own_dr (own_al HROWB.out _)) ((HM5.out.nr.row.alloc (.cells #[.int .i64 (a : Int), .int .i64 xl] 106)).drew) (by decide) e.symm); have k1c := k1.cell 3; have kxc := kx.cell 0; have kxd := kx.cell 1; have kxe := kx.cell 2; have m1c := (k1.far (p := ⟨qE, b, none⟩) (Blk.ne_ k1 kq (by decide)) (.slice A7 (nb + 1) c7)).cell 3; have mxc := (kx.far (p := ⟨qE, b, none⟩) (Blk.ne_ kx kq (by decide)) (.slice A7 (nb + 1) c7)).cell 0; have mxd := (kx.far (p := ⟨qE, b, none⟩) (Blk.ne_ kx kq (by decide)) (.slice A7 (nb + 1) c7)).cell 1; have mxe := (kx.far (p := ⟨qE, b, none⟩) (Blk.ne_ kx kq (by decide)) (.slice A7 (nb + 1) c7)).cell 2; have kqf := kq.frozen b; have kqc := (Blk.cell kq b).trans (usA_get us2 hbk); have HKX := Lib.hid kx; have HG7 := Lib.hid hgrow; have HO7 := Lib.hid hown'; have HX7 := Lib.hid hx7; have HKQ := Lib.hid kq; clear k1 kx kq hgrow hown' hx7; simp only [List.getElem?_toArray, List.getElem?_cons_zero, List.getElem?_cons_succ] at k1c kxc kxd kxe m1c mxc mxd mxe; rw [HUB.out] at kqc))
                          refine hK.out _ _ ?_ (fun hHeld' => ?_)
                          · (try dsimp only)
                            (first | exact ⟨hcg, hca, hcb, hcl⟩ | exact ⟨hcgA, hcaA, hcbA, hclA⟩ | exact ⟨k1c, kxc, kxd, kxe⟩ | exact ⟨m1c, mxc, mxd, mxe⟩)
                          clear hK K hHeld
                          have hHeld := hHeld'
                          clear hHeld'
                          refine wpAnyH_take (i := 21) (v := ?_) rfl (by kernel_rfl) (by kernel_rfl) (by kernel_rfl) (fun _ _ _ h => h) (Or.inl ⟨by rfl, ?_⟩) (by assumption) ?_
                          rotate_left
                          · intro w hSw
                            (try dsimp only at hSw)
                            go_simp <;> with_reducible rfl
                          try simp only [Act.put, List.setIfInBounds_toArray, List.set_cons_zero, List.set_cons_succ]
                          refine wpAnyH_ready (rs := [22]) (by kernel_rfl) (by simp) ?_
                          refine AllReadyH.cons rfl (fun K hK => ?_) AllReadyH.nil
                          go_simp
                          refine hK.out _ _ ?_ (fun hHeld' => ?_)
                          · (try dsimp only)
                            (first | exact ⟨hcg, hca, hcb, hcl⟩ | exact ⟨hcgA, hcaA, hcbA, hclA⟩ | exact ⟨k1c, kxc, kxd, kxe⟩ | exact ⟨m1c, mxc, mxd, mxe⟩)
                          clear hK K hHeld
                          have hHeld := hHeld'
                          clear hHeld'
                          refine wpAnyH_done (by kernel_rfl) ?_ _
                          rotate_left
                          go_simp
                          refine hK.out _ _ ?_ (fun hHeld' => ?_)
                          · (try dsimp only)
                            (first | exact ⟨hcg, hca, hcb, hcl⟩ | exact ⟨hcgA, hcaA, hcbA, hclA⟩ | exact ⟨k1c, kxc, kxd, kxe⟩ | exact ⟨m1c, mxc, mxd, mxe⟩)
                          clear hK K hHeld
                          have hHeld := hHeld'
                          clear hHeld'
                          refine wpAnyH_ready (rs := [19]) (by kernel_rfl) (by simp) ?_
                          refine AllReadyH.cons rfl (fun K hK => ?_) AllReadyH.nil
                          go_simp
                          refine hK.out _ _ ?_ (fun hHeld' => ?_)
                          · (try dsimp only)
                            (first | exact ⟨hcg, hca, hcb, hcl⟩ | exact ⟨hcgA, hcaA, hcbA, hclA⟩ | exact ⟨k1c, kxc, kxd, kxe⟩ | exact ⟨m1c, mxc, mxd, mxe⟩)
                          clear hK K hHeld
                          have hHeld := hHeld'
                          clear hHeld'
                          refine wpAnyH_ready (rs := [20]) (by kernel_rfl) (by simp) ?_
                          refine AllReadyH.cons rfl (fun K hK => ?_) AllReadyH.nil
                          (first | (refine step_append_any _ rfl (.tmp 153) (.tmp 159) 104 rfl w.heap.size 106 i2 (.agg #[.int .i64 0, .int .i64 0]) 2 16 Tryd.underlying104 hi2 hz20 hz21 hz22 rfl (by decide) (.slice Ab nb cb) nb ((near b).flatMap endV) (by simp [Act.eval, Act.put]) (own_al HROWB.out _) (wc.heap.size + 1) (some ⟨wc.heap.size, 0, none⟩) 1 1 [.int .i64 (a : Int), .int .i64 xl] (by simp [Act.eval, Act.put]) (reads_new2 _ _ _ _) (by simp [Value.oneCell']) (by unfold maxLen; omega) (by omega) (by have := HM5.out.below.size; simp; omega) ?_; intro v' w7 hown' hgrow hx7; obtain ⟨A7, c7, rfl, _, _⟩ := ownsRow_form hown'; have k1 := ((HM5.out.blk.alloc (.cells #[.int .i64 (a : Int), .int .i64 xl] 106)).drew).grown hgrow (fun e => own_blk_ne (own_dr (own_al HROWB.out _)) ((HM5.out.blk.alloc (.cells #[.int .i64 (a : Int), .int .i64 xl] 106)).drew) (by decide) e.symm); have kx := ((HX5.out.alloc (.cells #[.int .i64 (a : Int), .int .i64 xl] 106)).drew).grown hgrow (fun e => own_blk_ne (own_dr (own_al HROWB.out _)) ((HX5.out.alloc (.cells #[.int .i64 (a : Int), .int .i64 xl] 106)).drew) (by decide) e.symm); have kq := ((HM5.out.nr.row.alloc (.cells #[.int .i64 (a : Int), .int .i64 xl] 106)).drew).grown hgrow (fun e => own_blk_ne (own_dr (own_al HROWB.out _)) ((HM5.out.nr.row.alloc (.cells #[.int .i64 (a : Int), .int .i64 xl] 106)).drew) (by decide) e.symm); have k1c := k1.cell 3; have kxc := kx.cell 0; have kxd := kx.cell 1; have kxe := kx.cell 2; have m1c := (k1.far (p := ⟨qE, b, none⟩) (Blk.ne_ k1 kq (by decide)) (.slice A7 (nb + 1) c7)).cell 3; have mxc := (kx.far (p := ⟨qE, b, none⟩) (Blk.ne_ kx kq (by decide)) (.slice A7 (nb + 1) c7)).cell 0; have mxd := (kx.far (p := ⟨qE, b, none⟩) (Blk.ne_ kx kq (by decide)) (.slice A7 (nb + 1) c7)).cell 1; have mxe := (kx.far (p := ⟨qE, b, none⟩) (Blk.ne_ kx kq (by decide)) (.slice A7 (nb + 1) c7)).cell 2; have kqf := kq.frozen b; have kqc := (Blk.cell kq b).trans (usA_get us2 hbk); have HKX := Lib.hid kx; have HG7 := Lib.hid hgrow; have HO7 := Lib.hid hown'; have HX7 := Lib.hid hx7; have HKQ := Lib.hid kq; clear k1 kx kq hgrow hown' hx7; simp only [List.getElem?_toArray, List.getElem?_cons_zero, List.getElem?_cons_succ] at k1c kxc kxd kxe m1c mxc mxd mxe; rw [HUB.out] at kqc))
                          refine hK.out _ _ ?_ (fun hHeld' => ?_)
                          · (try dsimp only)
                            (first | exact ⟨hcg, hca, hcb, hcl⟩ | exact ⟨hcgA, hcaA, hcbA, hclA⟩ | exact ⟨k1c, kxc, kxd, kxe⟩ | exact ⟨m1c, mxc, mxd, mxe⟩)
                          clear hK K hHeld
                          have hHeld := hHeld'
                          clear hHeld'
                          refine wpAnyH_take (i := 21) (v := ?_) rfl (by kernel_rfl) (by kernel_rfl) (by kernel_rfl) (fun _ _ _ h => h) (Or.inl ⟨by rfl, ?_⟩) (by assumption) ?_
                          rotate_left
                          · intro w hSw
                            (try dsimp only at hSw)
                            go_simp <;> with_reducible rfl
                          try simp only [Act.put, List.setIfInBounds_toArray, List.set_cons_zero, List.set_cons_succ]
                          refine wpAnyH_ready (rs := [22]) (by kernel_rfl) (by simp) ?_
                          refine AllReadyH.cons rfl (fun K hK => ?_) AllReadyH.nil
                          go_simp
                          refine hK.out _ _ ?_ (fun hHeld' => ?_)
                          · (try dsimp only)
                            (first | exact ⟨hcg, hca, hcb, hcl⟩ | exact ⟨hcgA, hcaA, hcbA, hclA⟩ | exact ⟨k1c, kxc, kxd, kxe⟩ | exact ⟨m1c, mxc, mxd, mxe⟩)
                          clear hK K hHeld
                          have hHeld := hHeld'
                          clear hHeld'
                          refine wpAnyH_done (by kernel_rfl) ?_ _
                          rotate_left
                          all_goals
                            have hM6 := ((HM5.out.alloc (.cells #[.int .i64 (a : Int), .int .i64 xl] 106)).drew).push hbk (v' := .slice A7 (nb + 1) c7) (l' := near b ++ [(a, xl)]) (by rw [HUB.out]; exact HG7.out) (by rw [List.length_append, HNLB.out, List.flatMap_append]; exact HO7.out) (by
                              rw [HUB.out]
                              rcases HX7.out with h | h
                              · exact .inl h
                              · exact .inr ⟨_, h, by first | exact Nat.le_refl _ | (rw [size_drew_, World.size_alloc]; exact Nat.le_refl _)⟩)
                            have hokx : Okr k ((a : Int), (b : Int), xl) := ⟨by simp only; omega, by simp only; omega, by simp only; omega, by simp only; omega, hab, by simp only; omega, by simp only; omega⟩
                            have hnext : ∀ q, q < k → setU (setU near a (near a ++ [(b, xl)])) b (near b ++ [(a, xl)]) q = (nearU k (roads.take (i + 1))).getD q [] := by
                              intro q hq
                              rw [HSN.out, nearU_snoc, addRoad_getD (nearU_len k _) hokx]
                              simp only [Int.toNat_natCast]
                              by_cases e1 : q = a
                              · subst e1
                                rw [setU_other (fun e => hba e.symm), setU_same, if_pos rfl, ← HNR.out q hq]
                              · by_cases e2 : q = b
                                · subst e2
                                  rw [setU_same, if_neg (by omega), if_pos rfl, ← HNR.out q hq]
                                · rw [setU_other e2, setU_other e1, if_neg (by omega), if_neg (by omega), ← HNR.out q hq]
                            have hok2 : ∀ x ∈ roads.take (i + 1), Okr k x := by
                              intro x hx
                              rw [HSN.out] at hx
                              rcases List.mem_append.1 hx with hx | hx
                              · exact HOKR.out x hx
                              · rw [List.mem_singleton.1 hx]; exact hokx
                            have hap2 : Apart2 (roads.take (i + 1)) := by
                              unfold Apart2
                              rw [HSN.out, List.pairwise_append]
                              refine ⟨HAP.out, List.pairwise_singleton _ _, fun y hy z hz => ?_⟩
                              rw [List.mem_singleton.1 hz]
                              have := HRD.out
                              unfold hasRoad at this
                              rw [List.any_eq_false] at this
                              simpa using this y hy
                            have hre2 : roadsE k [] roads = roadsE k (roads.take (i + 1)) (roads.drop (i + 1)) := by
                              rw [HRE.out, HST.out, if_pos]
                              unfold roadE
                              rw [if_neg (by simp only; omega), if_neg hab, if_neg (by simp only; omega), if_neg (by rw [HRD.out]; decide)]
                            have HM6 := Lib.hid hM6; have HNX := Lib.hid hnext; have HOK2 := Lib.hid hok2; have HAP2 := Lib.hid hap2; have HRE2 := Lib.hid hre2
                            clear hM6 hnext hok2 hap2 hre2 hcg hcq hca hcb hcl hcgA hcqA hcaA hcbA hclA hfz
                            go_wp2
                            go_roundg (gk - 1)
                            case measure => omega
                            case rel => exact ⟨i + 1, _, _, by omega, by go_num, HM6.out, HNX.out, HOK2.out, HAP2.out, HRE2.out⟩
                      · rw [hrd] at hct
                        have HRD := Lib.hid hrd
                        clear hrd
                        go_wp2_with fail
                        refine hct.mono ?_
                        rintro e W2 ⟨rfl, hb2⟩
                        have HB2 := Lib.hid (HW.out.drew.later hb2).below
                        go_wp2
                        go_ret2
                        exact newPost_bad (HBAD.out 6 (by decide) (by unfold roadE; rw [if_neg (by simp only; omega), if_neg hab, if_neg (by simp only; omega), if_pos HRD.out])) (by decide) HB2.out
              · have hr0 := of_decide_eq_true HRNG.out
                have HR0 := Lib.hid hr0
                clear hr0
                go_wp2
                go_ret2
                exact newPost_bad (HBAD.out 3 (by decide) (by unfold roadE; rw [if_pos (by have := HR0.out; simp only; omega)])) (by decide) HW.out.below
          · obtain rfl : i = m := by omega
            have hzero : newE names roads = 0 := by
              rw [HE2.out, HRE.out, List.drop_eq_nil_of_le (by rw [HRL.out]; exact Nat.le_refl _)]; rfl
            have htk : roads.take i = roads := List.take_of_length_le (by rw [HRL.out]; exact Nat.le_refl _)
            have hM3 := HM.out.congr (near' := sortTo (fun j => (nearU k roads).getD j []) 0) (fun q hq => by rw [HNR.out q hq, htk]; rfl)
            have hnd : ∀ q, (((nearU k roads).getD q []).map (·.1)).Nodup := fun q => nearU_nodup roads (by have := HOKR.out; rwa [htk] at this) (by have := HAP.out; rwa [htk] at this) q
            have hfw : ∀ q, ((nearU k roads).getD q []).length ≤ 128 := fun q => Nat.le_trans (nearU_few roads (by have := HOKR.out; rwa [htk] at this) (by have := HAP.out; rwa [htk] at this) q) hk128
            have hcg := HM.out.blk.cell 3
            simp only [List.getElem?_toArray, List.getElem?_cons_zero, List.getElem?_cons_succ] at hcg
            have HM3 := Lib.hid hM3; have HND := Lib.hid hnd; have HFW := Lib.hid hfw; have HZ := Lib.hid hzero
            clear hM3 hnd hfw hzero htk HM HNR HOKR HAP HRE
            go_wp2
            go_loopw [168] (fun q wr => ∃ (j : Nat), j ≤ k ∧ q = .int .i64 j ∧ NewM w wr g mb qE k vN vR names roads k (nameF names) us (sortTo (fun j => (nearU k roads).getD j []) j)) (fun q _ => k - (intOf q).toNat)
            case atStart => exact ⟨0, by omega, rfl, HM3.out⟩
            case round =>
              obtain ⟨j, hj, rfl, hM⟩ := hrel
              have HM := Lib.hid hM
              clear hM hcg HM3
              by_cases hlt3 : j < k
              · have hcq := HM.out.nr.cell hlt3
                have hrow := HM.out.nr.rows j hlt3
                rw [sortTo_here] at hrow
                have hso := sortEnds_any wr hrow (Nat.le_trans (HFW.out j) (by omega)) (HND.out j)
                have hjI : (j : Int) < (k : Int) := by omega
                obtain ⟨Aj, cj, huj, _, _⟩ := ownsRow_form hrow
                rw [huj] at hso hcq
                have HUJ := Lib.hid huj
                clear hrow huj
                go_wp2_with fail
                refine hso.mono ?_
                rintro e w2 ⟨rfl, ho, hg⟩
                have hM2 := HM.out.sort_ hlt3 (l' := ((nearU k roads).getD j []).mergeSort endLe) (by rw [HUJ.out]; exact hg) (by rw [HUJ.out, List.length_mergeSort]; exact ho)
                rw [← sortTo_succ] at hM2
                have HM2 := Lib.hid hM2
                clear hM2 ho hg hso
                go_wp2
                go_roundw
                case rel => exact ⟨j + 1, by omega, by go_num, HM2.out⟩
                case measure => simp [intOf]; omega
              · obtain rfl : j = k := by omega
                go_wp2
                go_ret2
                refine ⟨fun h => absurd HZ.out h, fun _ => ⟨g, rfl, ?_⟩, HM.out.below⟩
                have hjn := HNL.out
                have hMo := HM.out
                clear HM
                subst hjn
                have hd := hMo.done rfl rfl ((nearU names.length roads).map fun l => l.mergeSort endLe) (by rw [List.length_map, nearU_len]) (fun q hq => by
                  rw [List.length_map, nearU_len] at hq
                  show (if q < names.length then (((nearU names.length roads).getD q [])).mergeSort endLe else (nearU names.length roads).getD q []) = _
                  rw [if_pos hq, List.getElem_map, List.getD_eq_getElem?_getD, List.getElem?_eq_getElem (by rw [nearU_len]; exact hq)]
                  rfl) (by unfold maxLen; omega)
                exact hd
end Go.Proofs.YtgimhjkijpcgjaaDoor
