/-
  layers 22, 25, 26, 42, plainly: which trees, histories and projects are valid, and the error of one that is not. Conditions: none.
-/
import Derived.Test.YtmepaeahchiglaaGreatDoorZbaj
import Derived.Test.YtmepaeahchiglaaGreatDoorZbak
import Derived.Test.YtmepaeahchiglaaGreatDoorZbai
namespace Go.Proofs.YtmepaeahchiglaaGreatDoor

/-- A node of a tree, at its place. -/
def ndOk (v : Nat) (x : Nd) : Bool := (if v = 0 then decide (x.1 = -1) else decide (0 ≤ x.1) && decide (x.1 < (v : Int))) && okName x.2
def ndsOk : Nat → List Nd → Bool
  | _, [] => true
  | v, x :: l => ndOk v x && ndsOk (v + 1) l
def treeOk (t : List Nd) : Bool := decide (1 ≤ t.length) && (decide (t.length ≤ 63) && (ndsOk 0 t && decide ((t.map fun x => bs x.2).Nodup)))
def treeE (t : List Nd) : Int := if treeOk t then 0 else 16
theorem ndsOk_at : ∀ {l : List Nd} {v : Nat}, ndsOk v l = true → ∀ (i : Nat) (hi : i < l.length), ndOk (v + i) l[i] = true
  | [], _, _, i, hi => absurd hi (Nat.not_lt_zero _)
  | x :: l, v, h, 0, _ => by unfold ndsOk at h; exact (Bool.and_eq_true _ _ ▸ h).1
  | x :: l, v, h, i + 1, hi => by
    unfold ndsOk at h
    have := ndsOk_at ((Bool.and_eq_true _ _ ▸ h).2) i (Nat.lt_of_succ_lt_succ hi)
    rw [show v + (i + 1) = v + 1 + i by omega]
    exact this
theorem ndsOk_of : ∀ {l : List Nd} {v : Nat}, (∀ (i : Nat) (hi : i < l.length), ndOk (v + i) l[i] = true) → ndsOk v l = true
  | [], _, _ => rfl
  | x :: l, v, h => by
    unfold ndsOk
    rw [Bool.and_eq_true]
    refine ⟨h 0 (Nat.zero_lt_succ _), ndsOk_of fun i hi => ?_⟩
    have := h (i + 1) (Nat.succ_lt_succ hi)
    rw [show v + 1 + i = v + (i + 1) by omega]
    exact this
/-- A tree up to a place is valid. -/
def goodT (t : List Nd) (k : Nat) : Prop := (∀ (i : Nat) (hi : i < t.length), i < k → ndOk i t[i] = true) ∧ ((t.take k).map fun x => bs x.2).Nodup
theorem goodT_zero (t : List Nd) : goodT t 0 := ⟨fun i _ h => absurd h (Nat.not_lt_zero _), by simp⟩
theorem goodT_next {t : List Nd} {k : Nat} (hk : k < t.length) (h : goodT t k) (h1 : ndOk k t[k] = true) (h2 : ∀ x ∈ t.take k, bs x.2 ≠ bs t[k].2) : goodT t (k + 1) := by
  refine ⟨fun i hi hlt => ?_, ?_⟩
  · rcases Nat.lt_succ_iff_lt_or_eq.1 hlt with h3 | rfl
    · exact h.1 i hi h3
    · exact h1
  · rw [List.take_succ_eq_append_getElem hk, List.map_append, List.nodup_append]
    refine ⟨h.2, by simp, fun a ha b hb => ?_⟩
    obtain ⟨x, hx, rfl⟩ := List.mem_map.1 ha
    simp only [List.map_cons, List.map_nil, List.mem_singleton] at hb
    subst hb
    exact h2 x hx
theorem goodT_all {t : List Nd} (h : goodT t t.length) (h1 : 1 ≤ t.length) (h2 : t.length ≤ 63) : treeE t = 0 := by
  unfold treeE treeOk
  rw [decide_eq_true h1, decide_eq_true h2, ndsOk_of (v := 0) (fun i hi => by rw [Nat.zero_add]; exact h.1 i hi hi), decide_eq_true (by have := h.2; rwa [List.take_length] at this)]
  rfl
theorem badT_node {t : List Nd} {k : Nat} (hk : k < t.length) (h1 : ndOk k t[k] = false) : treeE t = 16 := by
  unfold treeE
  rw [if_neg]
  intro h
  unfold treeOk at h
  simp only [Bool.and_eq_true] at h
  have := ndsOk_at h.2.2.1 k hk
  rw [Nat.zero_add, h1] at this
  cases this
theorem badT_len {t : List Nd} (h : t.length = 0 ∨ 63 < t.length) : treeE t = 16 := by
  unfold treeE
  rw [if_neg]
  intro h1
  unfold treeOk at h1
  simp only [Bool.and_eq_true, decide_eq_true_eq] at h1
  omega
theorem badT_name {t : List Nd} {i k : Nat} (hk : k < t.length) (hi : i < k) (h : bs (t[i]'(Nat.lt_trans hi hk)).2 = bs t[k].2) : treeE t = 16 := by
  unfold treeE
  rw [if_neg]
  intro h1
  unfold treeOk at h1
  simp only [Bool.and_eq_true, decide_eq_true_eq] at h1
  have hn := h1.2.2.2
  rw [List.nodup_iff_pairwise_ne, List.pairwise_iff_getElem] at hn
  have := hn i k (by rw [List.length_map]; omega) (by rw [List.length_map]; exact hk) hi
  rw [List.getElem_map, List.getElem_map] at this
  exact this h
/-! Histories. -/
/-- How many laws there are on the way to a node, of the first nodes. -/
def lensL (t : List Nd) (on : List (List Int)) : Nat → List Nat
  | 0 => []
  | k + 1 => lensL t on k ++ [(on[k]?.getD []).length + (if 0 ≤ (t[k]?.getD (-1, ⟨#[]⟩)).1 then (lensL t on k)[(t[k]?.getD (-1, ⟨#[]⟩)).1.toNat]?.getD 0 else 0)]
theorem lensL_len (t : List Nd) (on : List (List Int)) : ∀ k, (lensL t on k).length = k
  | 0 => rfl
  | k + 1 => by unfold lensL; rw [List.length_append, lensL_len t on k]; rfl
def lensOk (t : List Nd) (on : List (List Int)) (k : Nat) : Bool := (lensL t on k).all fun n => decide (n ≤ 64)
def inRange (m : Nat) (on : List (List Int)) : Bool := on.all fun l => l.all fun x => decide (0 ≤ x ∧ x < (m : Int))
def histE (t : List Nd) (laws : List Lw) (on : List (List Int)) : Int :=
  if treeE t = 0 then (if 64 < laws.length then 12 else if laws.all lawOk then (if (laws.map fun l => bs l.name).Nodup then (if on.length = t.length then (if lensOk t on on.length then (if inRange laws.length on then 0 else 3) else 2) else 2) else 6) else 17) else 16
/-! Words, forms, entries. -/
def leafs (t : List Nd) : List Nat := (List.range t.length).filter fun v => t.all fun x => decide (x.1 ≠ (v : Int))
def emptyF (l : List Fm) : Bool := l.all fun f => f.has || decide (f.w.length = 0)
def wordsE : List Fm → Int
  | [] => 0
  | f :: l => if wordE f.w = 0 then wordsE l else wordE f.w
def entsW : List En → Int
  | [] => 0
  | x :: l => if wordsE x.forms = 0 then entsW l else wordsE x.forms
def attE (t : List Nd) (laws : List Lw) (on : List (List Int)) (protos : List Fm) (es : List En) : Int :=
  if histE t laws on = 0 then (if 256 < es.length then 12 else if protos.length = es.length ∧ emptyF protos = true then
    (if es.all (fun x => decide (x.forms.length = (leafs t).length) && emptyF x.forms) = true then (if es.all (fun x => okName x.gloss) = true then (if wordsE protos = 0 then entsW es else wordsE protos) else 15) else 2) else 2) else histE t laws on
/-- The first error of adding sounds to an inventory. -/
def addsE (n : Nat) : List Nam → List Nam → Int
  | _, [] => 0
  | L, x :: r => if addE n L x.1 x.2 = 0 then addsE n (L ++ [x]) r else addE n L x.1 x.2
def toolsE (p : Pj) : Int := if newE p.feats = 0 then (if addsE p.feats.length [] p.sounds = 0 then notK p.feats.length p.marks else addsE p.feats.length [] p.sounds) else newE p.feats
def projE (p : Pj) : Int := if toolsE p = 0 then attE p.tree p.laws p.on p.protos p.entries else toolsE p
end Go.Proofs.YtmepaeahchiglaaGreatDoor
namespace Go.Proofs.YtmepaeahchiglaaGreatDoor
open Go.RowKit Go.Lib

set_option maxRecDepth 20000 in
set_option maxHeartbeats 1000000 in
theorem tletter_any (c : UInt8) (w : World) : Calls Tryz.prog 233 #[.int .u8 c.toNat] w fun e w' => e = .returned (.bool (okByte c)) ∧ w = w' := by
  obtain ⟨r, hr⟩ : ∃ r, okByte c = r := ⟨_, rfl⟩
  rw [hr]
  unfold okByte at hr
  have h256 := c.toNat_lt
  obtain ⟨n, hn⟩ : ∃ n, c.toNat = n := ⟨_, rfl⟩
  rw [hn] at hr h256 ⊢
  have HR := Lib.hid hr
  clear hr hn
  go_enter Tryz.func233, Tryz.ntmps233
  go_wp2
  all_goals
    go_ret
    refine ⟨?_, rfl⟩
    rw [← HR.out]
    simp
    try (first | omega | (rw [Bool.eq_iff_iff]; simp only [Bool.or_eq_true, Bool.and_eq_true, decide_eq_true_eq, beq_iff_eq]; omega))
theorem okName_iff (s : ByteArray) : okName s = (decide (0 < s.size) && (decide (s.size ≤ 24) && (bs s).all okByte)) := by
  unfold okName bs
  rw [Bool.and_assoc]
set_option maxRecDepth 20000 in
set_option maxHeartbeats 1000000 in
theorem tnamed_any (s : ByteArray) (w : World) (hs : s.size ≤ maxLen) : Calls Tryz.prog 214 #[.string s] w fun e w' => e = .returned (.bool (okName s)) ∧ w = w' := by
  obtain ⟨r, hr⟩ : ∃ r, okName s = r := ⟨_, rfl⟩
  rw [hr]
  rw [okName_iff] at hr
  have HR := Lib.hid hr
  clear hr
  unfold maxLen at hs
  go_enter Tryz.func214, Tryz.ntmps214
  go_wp2
  go_loopw [6] (fun i wr => ∃ k : Nat, k ≤ s.size ∧ i = .int .i64 k ∧ ((bs s).take k).all okByte = true ∧ w = wr) (fun i _ => s.size - (RowKit.intOf i).toNat)
  case atStart => exact ⟨0, by omega, rfl, rfl, rfl⟩
  case round =>
    obtain ⟨k, hk, rfl, hall, rfl⟩ := hrel
    by_cases hlt : k < s.size
    · have hkI : (k : Int) < (s.size : Int) := by omega
      have hk0 : (0 : Int) ≤ (k : Int) := by omega
      have hkb : k < (bs s).length := by rw [size_bs]; exact hlt
      have hbk : (bs s)[k] = s[k]'hlt := rfl
      have hnx : ((bs s).take (k + 1)).all okByte = (okByte (s[k]'hlt)) := by
        rw [List.take_succ_eq_append_getElem hkb, List.all_append, hall, hbk]; simp
      have hx256 : (((s[k]'hlt).toNat : Nat) : Int) < 256 := by have := (s[k]'hlt).toNat_lt; omega
      have hc := tletter_any (s[k]'hlt) w
      cases hv : okByte (s[k]'hlt) with
      | false =>
        rw [hv] at hc
        have HC := Lib.hid hc
        have hbad : (bs s).all okByte = false := by
          rw [List.all_eq_false]
          exact ⟨_, List.getElem_mem hkb, by rw [hbk, hv]; decide⟩
        obtain rfl : r = false := by rw [← HR.out, hbad, Bool.and_false, Bool.and_false]
        clear hc hv hbad hnx hall hkb hbk HR
        go_wp2_with fail
        refine HC.out.mono ?_
        rintro e w1 ⟨rfl, rfl⟩
        go_wp2
        go_ret
        exact ⟨rfl, rfl⟩
      | true =>
        rw [hv] at hc hnx
        have HC := Lib.hid hc; have HNX := Lib.hid hnx
        clear hc hv hnx hall hkb hbk
        go_wp2_with fail
        refine HC.out.mono ?_
        rintro e w1 ⟨rfl, rfl⟩
        go_wp2
        go_roundw
        case rel => exact ⟨k + 1, by omega, by go_num, HNX.out, trivial⟩
        case measure => simp [RowKit.intOf]; omega
    · obtain rfl : k = s.size := by omega
      rw [← size_bs, List.take_length] at hall
      have hr := HR.out
      rw [hall, Bool.and_true] at hr
      clear HR hall
      by_cases h0 : 0 < s.size
      · have h0I : (0 : Int) < (s.size : Int) := by omega
        rw [decide_eq_true h0, Bool.true_and] at hr
        by_cases h24 : s.size ≤ 24
        · have h24I : (s.size : Int) ≤ 24 := by omega
          rw [decide_eq_true h24] at hr
          subst hr
          go_wp2
          go_ret
          exact ⟨rfl, rfl⟩
        · have h24I : ¬ (s.size : Int) ≤ 24 := by omega
          rw [decide_eq_false h24] at hr
          subst hr
          go_wp2
          go_ret
          exact ⟨rfl, rfl⟩
      · have h0I : ¬ (0 : Int) < (s.size : Int) := by omega
        rw [decide_eq_false h0, Bool.false_and] at hr
        subst hr
        go_wp2
        go_ret
        exact ⟨rfl, rfl⟩
/-- Whether a name is among the first nodes. -/
def seenF (t : List Nd) (k : Nat) (s : ByteArray) : Bool := (t.take k).any fun x => decide (x.2 = s)
theorem seenF_next {t : List Nd} {k : Nat} (hk : k < t.length) : (fun s => if s = t[k].2 then true else seenF t k s) = seenF t (k + 1) := by
  funext s
  unfold seenF
  rw [List.take_succ_eq_append_getElem hk, List.any_append]
  by_cases e : s = t[k].2
  · rw [if_pos e]; simp [e]
  · rw [if_neg e]; simp [Ne.symm e]
theorem seenF_no {t : List Nd} {k : Nat} {s : ByteArray} (h : seenF t k s = false) : ∀ x ∈ t.take k, bs x.2 ≠ bs s := fun x hx e => by
  unfold seenF at h
  have := List.any_eq_false.1 h x hx
  simp only [decide_eq_true_eq] at this
  exact this (str_eq e)
theorem seenF_yes {t : List Nd} {k : Nat} (hk : k < t.length) (h : seenF t k t[k].2 = true) : treeE t = 16 := by
  unfold seenF at h
  obtain ⟨x, hx, hxe⟩ := List.any_eq_true.1 h
  obtain ⟨i, hi, rfl⟩ := List.mem_iff_getElem.1 hx
  rw [List.length_take] at hi
  have hxe := of_decide_eq_true hxe
  rw [List.getElem_take] at hxe
  exact badT_name hk (i := i) (by omega) (by rw [hxe])
set_option linter.unusedSimpArgs false in
set_option maxRecDepth 20000 in
set_option maxHeartbeats 4000000 in
theorem treeCheck_any (v : Value) (B : Nat) (t : List Nd) (w : World) (h : SlC NdC 2 w B t v) (hB : B ≤ w.heap.size) (hs : ∀ x ∈ t, x.2.size ≤ maxLen) :
    Calls Tryz.prog 177 #[v] w fun e w' => e = .returned (.int .i64 (treeE t)) ∧ Below w.heap.size w w' := by
  obtain ⟨A, c, rfl, ⟨hc1, hc2⟩, hr⟩ := h.flat
  obtain ⟨r, hre⟩ : ∃ r, treeE t = r := ⟨_, rfl⟩
  rw [hre]
  have HRE := Lib.hid hre; have HR := Lib.hid hr; have HS := Lib.hid hs
  clear hre hr hs h
  by_cases h0 : t.length = 0
  · obtain rfl : r = 16 := HRE.out.symm.trans (badT_len (.inl h0))
    have h0I : ((t.length : Int) == 0) = true := by rw [h0]; rfl
    clear h0 HRE
    go_enter Tryz.func177, Tryz.ntmps177
    go_wp2
    go_ret
    exact ⟨rfl, Below.refl _ _⟩
  have h0I : ((t.length : Int) == 0) = false := by rw [beq_eq_false_iff_ne]; omega
  by_cases h63 : 63 < t.length
  · obtain rfl : r = 16 := HRE.out.symm.trans (badT_len (.inr h63))
    have h63I : (63 : Int) < (t.length : Int) := by omega
    clear h63 h0 HRE
    go_enter Tryz.func177, Tryz.ntmps177
    go_wp2
    go_ret
    exact ⟨rfl, Below.refl _ _⟩
  have h63I : ¬ (63 : Int) < (t.length : Int) := by omega
  have hmm := @run_makeMap Tryz.prog
  have hb0 := (Below.refl w.heap.size w).alloc (Nat.le_refl _) (.map #[] 0)
  have hm0 := MapSB.made w
  have HB0 := Lib.hid hb0; have HM0 := Lib.hid hm0
  clear hb0 hm0
  go_enter Tryz.func177, Tryz.ntmps177
  go_wp2
  go_loopw [17] (fun i wr => ∃ k : Nat, k ≤ t.length ∧ i = .int .i64 k ∧ goodT t k ∧ MapSB wr w.heap.size k (seenF t k) ∧ Below w.heap.size w wr) (fun i _ => t.length - (RowKit.intOf i).toNat)
  case atStart => exact ⟨0, by omega, rfl, goodT_zero t, HM0.out, HB0.out⟩
  case round =>
    obtain ⟨k, hk, rfl, hgo, hmp, hbw⟩ := hrel
    have HGO := Lib.hid hgo; have HMP := Lib.hid hmp; have HBW := Lib.hid hbw
    clear hgo hmp hbw HM0 HB0
    by_cases hlt : k < t.length
    · have hkI : (k : Int) < (t.length : Int) := by omega
      have hk0 : (0 : Int) ≤ (k : Int) := by omega
      obtain ⟨ad, e, had, hcc⟩ := (HR.out.below (HBW.out.mono hB)).row (fun _ => rfl) (by decide) hlt
      subst e
      have e0 := hcc 0 _ rfl
      have e1 := hcc 1 _ rfl
      rw [Nat.add_zero] at e0
      rw [add_next ad (k * 2) 0] at e1
      have hbad := badT_node hlt
      have hgood := goodT_next hlt HGO.out
      have hsy := seenF_yes hlt
      have hsn := seenF_no (t := t) (k := k) (s := t[k].2)
      have hnf := seenF_next hlt
      have hsz := HS.out _ (List.getElem_mem hlt)
      have hwa := HMP.out.below ((Below.refl _ wr).alloc (Nat.le_refl _) (.cells #[.int .i64 t[k].1, .string t[k].2] 78))
      have hlook := hwa.look t[k].2 hsz
      generalize t[k] = x at *
      obtain ⟨par, nm⟩ := x
      simp only [] at *
      have hkb := Blk.new wr 78 #[.int .i64 par, .string nm]
      have hba := HBW.out.alloc HBW.out.size (.cells #[.int .i64 par, .string nm] 78)
      have hsw := HBW.out.size
      have c0 := hkb.cell 0; have c1 := hkb.cell 1
      simp only [List.getElem?_toArray, List.getElem?_cons_zero, List.getElem?_cons_succ] at c0 c1
      have HBAD := Lib.hid hbad; have HGOOD := Lib.hid hgood; have HSY := Lib.hid hsy; have HSN := Lib.hid hsn; have HNF := Lib.hid hnf; have HWA := Lib.hid hwa; have HBA := Lib.hid hba; have HKB := Lib.hid hkb
      clear hcc hbad hgood hsy hsn hnf hwa hba hkb
      have hnm := tnamed_any nm (wr.alloc (.cells #[.int .i64 par, .string nm] 78)) hsz
      obtain ⟨pk, hpk⟩ : ∃ p, (if k = 0 then decide (par = -1) else decide (0 ≤ par) && decide (par < (k : Int))) = p := ⟨_, rfl⟩
      have hno : ndOk k (par, nm) = (pk && okName nm) := by unfold ndOk; rw [hpk]
      have HNO := Lib.hid hno; have HPK := Lib.hid hpk; have HNM := Lib.hid hnm
      clear hno hpk hnm
      cases pk with
      | false =>
        obtain rfl : r = 16 := HRE.out.symm.trans (HBAD.out (by rw [HNO.out, Bool.false_and]))
        have hpk := HPK.out
        clear HPK HNO HNM HBAD HGOOD HSY HSN HNF HGO HMP hlook
        by_cases hA : (k : Int) ≤ par
        · clear hpk
          go_wp2
          go_ret
          exact ⟨rfl, HBA.out⟩
        · have hBm : par < min ((k : Int) - 1) 0 := by
            by_cases hz : k = 0
            · rw [if_pos hz] at hpk
              have := of_decide_eq_false hpk
              omega
            · rw [if_neg hz] at hpk
              simp only [Bool.and_eq_false_imp, decide_eq_true_eq, decide_eq_false_iff_not] at hpk
              have h1 : ¬ 0 ≤ par := fun h => absurd (hpk h) (by omega)
              omega
          clear hpk
          go_wp2
          go_ret
          exact ⟨rfl, HBA.out⟩
      | true =>
        have hpk := HPK.out
        have hp1 : ¬ (k : Int) ≤ par := by
          by_cases hz : k = 0
          · rw [if_pos hz] at hpk; have := of_decide_eq_true hpk; omega
          · rw [if_neg hz] at hpk; simp only [Bool.and_eq_true, decide_eq_true_eq] at hpk; omega
        have hp2 : ¬ par < min ((k : Int) - 1) 0 := by
          by_cases hz : k = 0
          · rw [if_pos hz] at hpk; have := of_decide_eq_true hpk; omega
          · rw [if_neg hz] at hpk; simp only [Bool.and_eq_true, decide_eq_true_eq] at hpk; omega
        clear hpk HPK
        cases hok : okName nm with
        | false =>
          have HNM := HNM.out
          rw [hok] at HNM
          have HNM := Lib.hid HNM
          obtain rfl : r = 16 := HRE.out.symm.trans (HBAD.out (by rw [HNO.out, hok, Bool.and_false]))
          clear hok HNO HBAD HGOOD HSY HSN HNF HGO HMP hlook
          go_wp2_with fail
          refine HNM.out.mono ?_
          rintro e w1 ⟨rfl, rfl⟩
          go_wp2
          go_ret
          exact ⟨rfl, HBA.out⟩
        | true =>
          have HNM := HNM.out
          rw [hok] at HNM
          have HNM := Lib.hid HNM
          have hgo := HGOOD.out (by rw [HNO.out, hok]; rfl)
          have HGO2 := Lib.hid hgo
          clear hok HNO HBAD HGOOD hgo HGO HMP
          cases hsn : seenF t k nm with
          | true =>
            rw [hsn] at hlook
            obtain rfl : r = 16 := HRE.out.symm.trans (HSY.out hsn)
            clear hsn HSY HSN HNF HGO2
            go_wp2_with fail
            refine HNM.out.mono ?_
            rintro e w1 ⟨rfl, rfl⟩
            go_wp2
            go_ret
            exact ⟨rfl, HBA.out⟩
          | false =>
            rw [hsn] at hlook
            have HGO3 := Lib.hid (HGO2.out (HSN.out hsn))
            clear hsn HSY HSN HGO2
            go_wp2_with fail
            refine HNM.out.mono ?_
            rintro e w1 ⟨rfl, rfl⟩
            go_wp2_with (at_mapUpdate; refine wpList_putSB rfl _ _ _ rfl w.heap.size k (seenF t k) rfl HWA.out (by unfold maxLen; omega) nm hsz rfl rfl ?_; intro w3 hmap3 hg3)
            rw [HNF.out] at hmap3
            have hb3 := HBA.out.grown hg3 HBA.out.size (fun j hj => by injection hj with hj; omega)
            go_roundw
            case rel => exact ⟨k + 1, by omega, by go_num, HGO3.out, hmap3, hb3⟩
            case measure => simp [RowKit.intOf]; omega
    · obtain rfl : k = t.length := by omega
      obtain rfl : r = 0 := HRE.out.symm.trans (goodT_all HGO.out (by omega) (by omega))
      go_wp2
      go_ret
      exact ⟨rfl, HBW.out⟩
end Go.Proofs.YtmepaeahchiglaaGreatDoor
