/-
  layer 26: what Check asks of forms and entries. Conditions: lists that can be read.
-/
import Derived.Test.YtmepaeahchiglaaGreatDoorZban
import Derived.Test.YtmepaeahchiglaaGreatDoorZbao
namespace Go.Proofs.YtmepaeahchiglaaGreatDoor
open Go.RowKit Go.Lib

theorem form_len {w : World} {B : Nat} : ∀ x cs, FormC w B x cs → cs.length = 2 := by
  rintro x cs ⟨v, rfl, -⟩; rfl
theorem en_len {w : World} {B : Nat} : ∀ x cs, EnC w B x cs → cs.length = 2 := by
  rintro x cs ⟨v, rfl, -⟩; rfl
/-- A form that holds sounds and is not known. -/
def badF (f : Fm) : Bool := !f.has && decide (0 < f.w.length)
theorem badF_eq (f : Fm) : (f.has || decide (f.w.length = 0)) = !badF f := by
  unfold badF
  cases f.has
  · rw [Bool.false_or, Bool.not_false, Bool.true_and, Bool.eq_iff_iff]; simp
  · simp
theorem emptyF_eq (l : List Fm) : emptyF l = !l.any badF := by
  unfold emptyF
  induction l with
  | nil => rfl
  | cons x l ih => rw [List.all_cons, List.any_cons, ih, badF_eq, Bool.not_or]
set_option maxRecDepth 20000 in
theorem emptyForm_any (f : Fm) (A : Option Addr) (c : Nat) (w : World) : Calls Tryz.prog 180 #[.agg #[.bool f.has, .slice A f.w.length c]] w fun e w' => e = .returned (.bool (badF f)) ∧ Below w.heap.size w w' := by
  obtain ⟨has, ws⟩ := f
  unfold badF
  simp only []
  obtain ⟨n, hn⟩ : ∃ n, ws.length = n := ⟨_, rfl⟩
  rw [hn]
  clear hn
  have HB := Lib.hid ((Below.refl w.heap.size w).alloc (Nat.le_refl _) (.cells #[.bool has, .slice A n c] 82))
  cases has with
  | true =>
    go_enter Tryz.func180, Tryz.ntmps180
    go_wp2
    go_ret
    exact ⟨rfl, HB.out⟩
  | false =>
    by_cases h : 0 < n
    · have hI : (0 : Int) < (n : Int) := by omega
      rw [decide_eq_true h]
      have H := Lib.hid h
      clear h
      go_enter Tryz.func180, Tryz.ntmps180
      go_wp2
      go_ret
      exact ⟨by show Ending.returned (Value.bool (decide (0 < n))) = _; rw [decide_eq_true H.out]; rfl, HB.out⟩
    · have hI : ¬ (0 : Int) < (n : Int) := by omega
      rw [decide_eq_false h]
      have H := Lib.hid h
      clear h
      go_enter Tryz.func180, Tryz.ntmps180
      go_wp2
      go_ret
      exact ⟨by show Ending.returned (Value.bool (decide (0 < n))) = _; rw [decide_eq_false H.out], HB.out⟩
set_option maxRecDepth 20000 in
set_option maxHeartbeats 1000000 in
theorem idxForm_any (A : Option Addr) (n c B : Nat) (l : List Fm) (w : World) (h : SlC FormC 2 w B l (.slice A n c)) (hB : B ≤ w.heap.size) :
    Calls Tryz.prog 83 #[.slice A n c, .func (.func 180) #[] #[]] w fun e w' => (∃ i : Int, e = .returned (.int .i64 i) ∧ decide (0 ≤ i) = l.any badF) ∧ Below w.heap.size w w' := by
  obtain ⟨hn, hn1, hn2⟩ := h.len
  unfold maxLen at hn2
  obtain ⟨res, hres⟩ : ∃ res, l.any badF = res := ⟨_, rfl⟩
  rw [hres]
  have HRES := Lib.hid hres; have HS := Lib.hid h; have HN := Lib.hid hn
  clear hres h hn
  go_enter Tryz.func83, Tryz.ntmps83
  go_wp2
  go_loopw [8] (fun i wr => ∃ k : Nat, k ≤ n ∧ i = .int .i64 k ∧ (l.take k).any badF = false ∧ Below w.heap.size w wr) (fun i _ => n - (RowKit.intOf i).toNat)
  case atStart => exact ⟨0, by omega, rfl, by simp, Below.refl _ _⟩
  case round =>
    obtain ⟨k, hk, rfl, hno, hb⟩ := hrel
    have HNO := Lib.hid hno; have HB := Lib.hid hb
    clear hno hb
    by_cases hlt : k < n
    · have hkl : k < l.length := by have := HN.out; omega
      have hkI : (k : Int) < (n : Int) := by omega
      have hk0 : (0 : Int) ≤ (k : Int) := by omega
      have hkeep : ∀ p : Addr, p.block < B → wr.cell? p = w.cell? p := fun p hp => HB.out.cell (Nat.lt_of_lt_of_le hp hB)
      obtain ⟨ad, cs, rfl, had, hP, hcc⟩ := slC_cells form_len (SlC.plain hkeep HS.out (fun _ _ h => FormC.keep hkeep h)) hkl
      obtain ⟨v, rfl, hv⟩ := hP
      obtain ⟨Ax, nx, cx, rfl, hnx⟩ := hv.form
      have e0 := hcc 0 _ rfl
      have e1 := hcc 1 _ rfl
      rw [Nat.add_zero] at e0
      rw [add_next ad (k * 2) 0] at e1
      have hst : (l.take (k + 1)).any badF = badF l[k] := by rw [List.take_succ_eq_append_getElem hkl, List.any_append, HNO.out]; simp
      have hmem := List.getElem_mem hkl
      have hc := emptyForm_any l[k] Ax cx wr
      rw [← hnx] at hc
      cases hq : badF l[k] with
      | true =>
        obtain rfl : res = true := by rw [← HRES.out]; exact List.any_eq_true.2 ⟨_, hmem, hq⟩
        rw [hq] at hc
        have HC := Lib.hid hc
        clear hq hmem hst hcc hkeep hv hnx hc
        generalize l[k] = x at *
        go_wp2_with fail
        refine HC.out.mono ?_
        rintro e w2 ⟨rfl, hb2⟩
        have HB2 := Lib.hid (HB.out.trans (hb2.mono HB.out.size))
        clear hb2
        go_wp2
        go_ret
        exact ⟨⟨k, rfl, decide_eq_true (by omega)⟩, HB2.out⟩
      | false =>
        rw [hq] at hc hst
        have HC := Lib.hid hc; have HST := Lib.hid hst
        clear hq hmem hst hcc hkeep hv hnx hc
        generalize l[k] = x at *
        go_wp2_with fail
        refine HC.out.mono ?_
        rintro e w2 ⟨rfl, hb2⟩
        have HB2 := Lib.hid (HB.out.trans (hb2.mono HB.out.size))
        clear hb2
        go_wp2
        go_roundw
        case rel => exact ⟨k + 1, by omega, by go_num, HST.out, HB2.out⟩
        case measure => simp [RowKit.intOf]; omega
    · obtain rfl : k = n := by omega
      have hno := HNO.out
      rw [List.take_of_length_le (by have := HN.out; omega)] at hno
      obtain rfl : res = false := HRES.out.symm.trans hno
      go_wp2
      go_ret
      exact ⟨⟨-1, rfl, rfl⟩, HB.out⟩
set_option maxRecDepth 20000 in
theorem empty_any (v : Value) (B : Nat) (l : List Fm) (w : World) (h : SlC FormC 2 w B l v) (hB : B ≤ w.heap.size) : Calls Tryz.prog 131 #[v] w fun e w' => e = .returned (.bool (emptyF l)) ∧ Below w.heap.size w w' := by
  obtain ⟨A, n, c, rfl, -⟩ := h.form
  have hi := idxForm_any A n c B l w h hB
  have hcont : Calls Tryz.prog 33 #[.slice A n c, .func (.func 180) #[] #[]] w fun e w' => e = .returned (.bool (l.any badF)) ∧ Below w.heap.size w w' := by
    obtain ⟨res, hres⟩ : ∃ res, l.any badF = res := ⟨_, rfl⟩
    rw [hres] at hi ⊢
    have HI := Lib.hid hi
    clear hi hres h
    go_enter Tryz.func33, Tryz.ntmps33
    go_wp2_with fail
    refine HI.out.mono ?_
    rintro e w1 ⟨⟨i, rfl, hri⟩, hb⟩
    have HB := Lib.hid hb
    clear hb HI
    go_wp2
    go_ret
    exact ⟨by rw [← hri]; rfl, HB.out⟩
  rw [emptyF_eq]
  generalize l.any badF = b at *
  have HC := Lib.hid hcont
  clear hcont hi h
  go_enter Tryz.func131, Tryz.ntmps131
  go_wp2_with fail
  refine HC.out.mono ?_
  rintro e w1 ⟨rfl, hb⟩
  have HB := Lib.hid hb
  clear hb
  go_wp2
  go_ret
  exact ⟨rfl, HB.out⟩
/-! Words of forms. -/
theorem wordsE_cons (f : Fm) (l : List Fm) : wordsE (f :: l) = if wordE f.w = 0 then wordsE l else wordE f.w := rfl
theorem wordsE_next {l : List Fm} {k : Nat} (hk : k < l.length) (h : wordsE (l.take k) = 0) : wordsE (l.take (k + 1)) = wordE l[k].w ∧ (wordE l[k].w ≠ 0 → wordsE l = wordE l[k].w) := by
  have hap : ∀ (a b : List Fm), wordsE a = 0 → wordsE (a ++ b) = wordsE b := by
    intro a b
    induction a with
    | nil => intro _; rfl
    | cons x a ih =>
      intro h
      rw [List.cons_append]
      rw [wordsE_cons] at h ⊢
      by_cases e : wordE x.w = 0
      · rw [if_pos e] at h ⊢; exact ih h
      · rw [if_neg e] at h; exact absurd h e
  constructor
  · rw [List.take_succ_eq_append_getElem hk, hap _ _ h]
    show (if wordE l[k].w = 0 then 0 else wordE l[k].w) = _
    split
    · rename_i e; exact e.symm
    · rfl
  · intro hne
    have e : l = l.take k ++ l[k] :: l.drop (k + 1) := by rw [← List.drop_eq_getElem_cons hk, List.take_append_drop]
    conv => lhs; rw [e]
    rw [hap _ _ h]
    show (if wordE l[k].w = 0 then _ else wordE l[k].w) = _
    rw [if_neg hne]
set_option maxRecDepth 20000 in
set_option maxHeartbeats 2000000 in
theorem words_any (v : Value) (B : Nat) (l : List Fm) (w : World) (h : SlC FormC 2 w B l v) (hB : B ≤ w.heap.size) (hok : ∀ f ∈ l, ∀ s ∈ f.w, ok32 s) :
    Calls Tryz.prog 133 #[v] w fun e w' => e = .returned (.int .i64 (wordsE l)) ∧ Below w.heap.size w w' := by
  obtain ⟨A, n, c, rfl, -⟩ := h.form
  obtain ⟨hn, hn1, hn2⟩ := h.len
  unfold maxLen at hn2
  obtain ⟨r, hr⟩ : ∃ r, wordsE l = r := ⟨_, rfl⟩
  rw [hr]
  have HR := Lib.hid hr; have HS := Lib.hid h; have HN := Lib.hid hn; have HOK := Lib.hid hok
  clear hr h hn hok
  go_enter Tryz.func133, Tryz.ntmps133
  go_wp2
  go_loopw [8] (fun i wr => ∃ k : Nat, k ≤ n ∧ i = .int .i64 k ∧ wordsE (l.take k) = 0 ∧ Below w.heap.size w wr) (fun i _ => n - (RowKit.intOf i).toNat)
  case atStart => exact ⟨0, by omega, rfl, by rw [List.take_zero]; rfl, Below.refl _ _⟩
  case round =>
    obtain ⟨k, hk, rfl, hno, hb⟩ := hrel
    have HNO := Lib.hid hno; have HB := Lib.hid hb
    clear hno hb
    by_cases hlt : k < n
    · have hkl : k < l.length := by have := HN.out; omega
      have hkI : (k : Int) < (n : Int) := by omega
      have hk0 : (0 : Int) ≤ (k : Int) := by omega
      have hkeep : ∀ p : Addr, p.block < B → wr.cell? p = w.cell? p := fun p hp => HB.out.cell (Nat.lt_of_lt_of_le hp hB)
      obtain ⟨ad, cs, rfl, had, hP, hcc⟩ := slC_cells form_len (SlC.plain hkeep HS.out (fun _ _ h => FormC.keep hkeep h)) hkl
      obtain ⟨v, rfl, hv⟩ := hP
      obtain ⟨Ax, cx, rfl, ⟨hx1, hx2⟩, hxr⟩ := hv.flat
      have e0 := hcc 0 _ rfl
      have e1 := hcc 1 _ rfl
      rw [Nat.add_zero] at e0
      rw [add_next ad (k * 2) 0] at e1
      obtain ⟨hst, hbad⟩ := wordsE_next hkl HNO.out
      have hokx := HOK.out _ (List.getElem_mem hkl)
      generalize l[k] = x at *
      obtain ⟨has, ws⟩ := x
      simp only [] at *
      have hba := HB.out.alloc HB.out.size (.cells #[.bool has, .slice Ax ws.length cx] 82)
      have hc := wordCheck_any Ax ws.length cx B ws (wr.alloc (.cells #[.bool has, .slice Ax ws.length cx] 82)) (hxr.alloc (Nat.le_trans hB HB.out.size) _) (by rw [World.size_alloc]; have := HB.out.size; omega) (by omega) hokx
      have HC := Lib.hid hc; have HST := Lib.hid hst; have HBAD := Lib.hid hbad; have HBA := Lib.hid hba
      clear hst hbad hcc hkeep hv hc hxr hokx hba
      go_wp2_with fail
      refine HC.out.mono ?_
      rintro e w2 ⟨rfl, hb2⟩
      have HB2 := Lib.hid (HBA.out.trans (hb2.mono HBA.out.size))
      clear hb2
      by_cases hz : wordE ws = 0
      · have hzI : (wordE ws != (0 : Int)) = false := by rw [hz]; rfl
        have hst := HST.out
        rw [hz] at hst
        have HST2 := Lib.hid hst
        clear hz hst
        go_wp2
        go_roundw
        case rel => exact ⟨k + 1, by omega, by go_num, HST2.out, HB2.out⟩
        case measure => simp [RowKit.intOf]; omega
      · have hzI : (wordE ws != (0 : Int)) = true := by rw [bne_iff_ne]; exact hz
        obtain rfl : r = wordE ws := HR.out.symm.trans (HBAD.out hz)
        clear hz
        go_wp2
        go_ret
        exact ⟨rfl, HB2.out⟩
    · obtain rfl : k = n := by omega
      have hno := HNO.out
      rw [List.take_of_length_le (by have := HN.out; omega)] at hno
      obtain rfl : r = 0 := HR.out.symm.trans hno
      go_wp2
      go_ret
      exact ⟨rfl, HB.out⟩
/-! Names. -/
theorem tree_one (s : ByteArray) : treeE [(-1, s)] = if okName s = true then 0 else 16 := by
  unfold treeE treeOk ndsOk ndOk
  simp [ndsOk]
set_option maxRecDepth 20000 in
theorem anamed_any (s : ByteArray) (w : World) (hs : s.size ≤ maxLen) : Calls Tryz.prog 181 #[.string s] w fun e w' => e = .returned (.bool (okName s)) ∧ Below w.heap.size w w' := by
  have hal := (Below.refl w.heap.size w).alloc (Nat.le_refl _) (.cells #[.int .i64 (-1), .string s] 78)
  have hrd := reads_newk w 78 [.int .i64 (-1), .string s] 2 1 rfl
  have htc := treeCheck_any (.slice (some ⟨w.heap.size, 0, none⟩) 1 1) (w.heap.size + 1) [(-1, s)] (w.alloc (.cells #[.int .i64 (-1), .string s] 78)) ⟨_, _, _, rfl, ⟨Nat.le_refl _, by unfold maxLen; decide⟩, hrd, flat_rowsC (f := fun x : Nd => [Value.int .i64 x.1, Value.string x.2]) [(-1, s)]⟩ (by simp) (by simpa using hs)
  rw [tree_one] at htc
  obtain ⟨q, hq⟩ : ∃ q, okName s = q := ⟨_, rfl⟩
  rw [hq] at htc ⊢
  have HT := Lib.hid htc; have HB := Lib.hid hal
  clear hal hrd htc hq hs
  go_enter Tryz.func181, Tryz.ntmps181
  go_wp2_with fail
  refine HT.out.mono ?_
  rintro e w1 ⟨rfl, hb1⟩
  have HB1 := Lib.hid (HB.out.trans (hb1.mono HB.out.size))
  clear hb1
  cases q with
  | true =>
    rw [if_pos rfl]
    go_wp2
    go_ret
    exact ⟨rfl, HB1.out⟩
  | false =>
    rw [if_neg (by decide)]
    go_wp2
    go_ret
    exact ⟨rfl, HB1.out⟩
end Go.Proofs.YtmepaeahchiglaaGreatDoor
namespace Go.Proofs.YtmepaeahchiglaaGreatDoor
open Go.RowKit Go.Lib

def entOk (n : Nat) (x : En) : Bool := decide (x.forms.length = n) && emptyF x.forms
def entsE (n : Nat) (es : List En) : Int := if es.all (entOk n) = true then (if es.all (fun x => okName x.gloss) = true then 0 else 15) else 2
theorem all_next {α : Type} {f : α → Bool} {l : List α} {k : Nat} (hk : k < l.length) (h : (l.take k).all f = true) : (l.take (k + 1)).all f = f l[k] ∧ (f l[k] = false → l.all f = false) := by
  constructor
  · rw [List.take_succ_eq_append_getElem hk, List.all_append, h]; simp
  · intro e
    rw [List.all_eq_false]
    exact ⟨_, List.getElem_mem hk, by rw [e]; decide⟩
set_option linter.unusedSimpArgs false in
set_option maxRecDepth 20000 in
set_option maxHeartbeats 4000000 in
theorem entries_any (v : Value) (m B : Nat) (es : List En) (w : World) (h : SlC EnC 2 w B es v) (hB : B ≤ w.heap.size) (hs : ∀ x ∈ es, x.gloss.size ≤ maxLen) :
    Calls Tryz.prog 132 #[v, .int .i64 (m : Int)] w fun e w' => e = .returned (.int .i64 (entsE m es)) ∧ Below w.heap.size w w' := by
  obtain ⟨A, n, c, rfl, -⟩ := h.form
  obtain ⟨hn, hn1, hn2⟩ := h.len
  unfold maxLen at hn2
  obtain ⟨r, hr⟩ : ∃ r, entsE m es = r := ⟨_, rfl⟩
  rw [hr]
  unfold entsE at hr
  have HR := Lib.hid hr; have HS := Lib.hid h; have HN := Lib.hid hn; have HG := Lib.hid hs
  clear hr h hn hs
  go_enter Tryz.func132, Tryz.ntmps132
  go_wp2
  go_loopw [11] (fun i wr => ∃ k : Nat, k ≤ n ∧ i = .int .i64 k ∧ (es.take k).all (entOk m) = true ∧ Below w.heap.size w wr) (fun i _ => n - (RowKit.intOf i).toNat)
  case atStart => exact ⟨0, by omega, rfl, by simp, Below.refl _ _⟩
  case round =>
    obtain ⟨k, hk, rfl, hno, hb⟩ := hrel
    have HNO := Lib.hid hno; have HB := Lib.hid hb
    clear hno hb
    by_cases hlt : k < n
    · have hkl : k < es.length := by have := HN.out; omega
      have hkI : (k : Int) < (n : Int) := by omega
      have hk0 : (0 : Int) ≤ (k : Int) := by omega
      have hkeep : ∀ p : Addr, p.block < B → wr.cell? p = w.cell? p := fun p hp => HB.out.cell (Nat.lt_of_lt_of_le hp hB)
      obtain ⟨ad, cs, rfl, had, hP, hcc⟩ := slC_cells en_len (SlC.plain hkeep HS.out (fun _ _ h => EnC.keep hkeep h)) hkl
      obtain ⟨v, rfl, hv⟩ := hP
      obtain ⟨Ax, nx, cx, rfl, hnx⟩ := hv.form
      have e0 := hcc 0 _ rfl
      have e1 := hcc 1 _ rfl
      rw [Nat.add_zero] at e0
      rw [add_next ad (k * 2) 0] at e1
      obtain ⟨hst, hbad⟩ := all_next hkl HNO.out
      generalize es[k] = x at *
      have hst : (es.take (k + 1)).all (entOk m) = (decide (nx = m) && emptyF x.forms) := by rw [hst, hnx]; rfl
      have hbad : (decide (nx = m) && emptyF x.forms) = false → es.all (entOk m) = false := fun e => hbad (by rw [← e, hnx]; rfl)
      obtain ⟨gl, fl⟩ := x
      simp only [] at *
      have hba := HB.out.alloc HB.out.size (.cells #[.string gl, .slice Ax nx cx] 84)
      have hkeepA : ∀ p : Addr, p.block < B → (wr.alloc (.cells #[.string gl, .slice Ax nx cx] 84)).cell? p = wr.cell? p := fun p hp => World.cell?_alloc_lt wr _ p (by have := HB.out.size; omega)
      have hc := empty_any _ B fl (wr.alloc (.cells #[.string gl, .slice Ax nx cx] 84)) (SlC.plain hkeepA hv (fun _ _ h => FormC.keep hkeepA h)) (by rw [World.size_alloc]; have := HB.out.size; omega)
      obtain ⟨q, hq⟩ : ∃ q, emptyF fl = q := ⟨_, rfl⟩
      rw [hq] at hc hst hbad
      have HC := Lib.hid hc; have HST := Lib.hid hst; have HBAD := Lib.hid hbad; have HBA := Lib.hid hba
      clear hst hbad hcc hkeep hv hc hba hkeepA hnx hq
      by_cases hm : nx = m
      · have hmI : ((nx : Int) != (m : Int)) = false := by rw [hm]; simp
        have hst := HST.out; have hbad := HBAD.out
        rw [decide_eq_true hm, Bool.true_and] at hst hbad
        have HST := Lib.hid hst; have HBAD := Lib.hid hbad
        clear hm hst hbad
        go_wp2_with fail
        refine HC.out.mono ?_
        rintro e w2 ⟨rfl, hb2⟩
        have HB2 := Lib.hid (HBA.out.trans (hb2.mono HBA.out.size))
        clear hb2
        cases q with
        | true =>
          go_wp2
          go_roundw
          case rel => exact ⟨k + 1, by omega, by go_num, HST.out, HB2.out⟩
          case measure => simp [RowKit.intOf]; omega
        | false =>
          obtain rfl : r = 2 := by rw [← HR.out, if_neg (by rw [HBAD.out rfl]; decide)]
          go_wp2
          go_ret
          exact ⟨rfl, HB2.out⟩
      · have hmI : ((nx : Int) != (m : Int)) = true := by rw [bne_iff_ne]; omega
        obtain rfl : r = 2 := by rw [← HR.out, if_neg (by rw [HBAD.out (by rw [decide_eq_false hm]; rfl)]; decide)]
        clear hm
        go_wp2
        go_ret
        exact ⟨rfl, HBA.out⟩
    · obtain rfl : k = n := by omega
      have hno := HNO.out
      rw [List.take_of_length_le (by have := HN.out; omega)] at hno
      have hr := HR.out
      rw [if_pos hno] at hr
      have HR2 := Lib.hid hr
      obtain ⟨wo, rfl⟩ : ∃ W, W = wr := ⟨_, rfl⟩
      have HBo := HB
      clear hno hr HR HNO HB
      go_wp2
      go_loopw [29] (fun i wr => ∃ j : Nat, j ≤ k ∧ i = .int .i64 j ∧ (es.take j).all (fun x => okName x.gloss) = true ∧ Below w.heap.size w wr) (fun i _ => k - (RowKit.intOf i).toNat)
      case atStart => exact ⟨0, by omega, rfl, by simp, HBo.out⟩
      case round =>
        obtain ⟨j, hj, rfl, hno, hb⟩ := hrel
        have HNO := Lib.hid hno; have HB := Lib.hid hb
        clear hno hb
        by_cases hlt2 : j < k
        · have hkl : j < es.length := by have := HN.out; omega
          have hjI : (j : Int) < (k : Int) := by omega
          have hj0 : (0 : Int) ≤ (j : Int) := by omega
          have hkeep : ∀ p : Addr, p.block < B → wr.cell? p = w.cell? p := fun p hp => HB.out.cell (Nat.lt_of_lt_of_le hp hB)
          obtain ⟨ad, cs, rfl, had, hP, hcc⟩ := slC_cells en_len (SlC.plain hkeep HS.out (fun _ _ h => EnC.keep hkeep h)) hkl
          obtain ⟨v, rfl, hv⟩ := hP
          obtain ⟨Ax, nx, cx, rfl, hnx⟩ := hv.form
          have e0 := hcc 0 _ rfl
          have e1 := hcc 1 _ rfl
          rw [Nat.add_zero] at e0
          rw [add_next ad (j * 2) 0] at e1
          obtain ⟨hst, hbad⟩ := all_next hkl HNO.out
          have hgl := HG.out _ (List.getElem_mem hkl)
          generalize es[j] = x at *
          obtain ⟨gl, fl⟩ := x
          simp only [] at *
          have hba := HB.out.alloc HB.out.size (.cells #[.string gl, .slice Ax nx cx] 84)
          have hc := anamed_any gl (wr.alloc (.cells #[.string gl, .slice Ax nx cx] 84)) hgl
          obtain ⟨q, hq⟩ : ∃ q, okName gl = q := ⟨_, rfl⟩
          rw [hq] at hc hst hbad
          have HC := Lib.hid hc; have HST := Lib.hid hst; have HBAD := Lib.hid hbad; have HBA := Lib.hid hba
          clear hst hbad hcc hkeep hv hc hba hnx hq
          go_wp2_with fail
          refine HC.out.mono ?_
          rintro e w2 ⟨rfl, hb2⟩
          have HB2 := Lib.hid (HBA.out.trans (hb2.mono HBA.out.size))
          clear hb2
          cases q with
          | true =>
            go_wp2
            go_roundw
            case rel => exact ⟨j + 1, by omega, by go_num, HST.out, HB2.out⟩
            case measure => simp [RowKit.intOf]; omega
          | false =>
            obtain rfl : r = 15 := by rw [← HR2.out, if_neg (by rw [HBAD.out rfl]; decide)]
            go_wp2
            go_ret
            exact ⟨rfl, HB2.out⟩
        · obtain rfl : j = k := by omega
          have hno := HNO.out
          rw [List.take_of_length_le (by have := HN.out; omega)] at hno
          obtain rfl : r = 0 := by rw [← HR2.out, if_pos hno]
          clear hno
          go_wp2
          go_ret
          exact ⟨rfl, HB.out⟩
theorem entsW_next {l : List En} {k : Nat} (hk : k < l.length) (h : entsW (l.take k) = 0) : entsW (l.take (k + 1)) = wordsE l[k].forms ∧ (wordsE l[k].forms ≠ 0 → entsW l = wordsE l[k].forms) := by
  have hc : ∀ (x : En) (l : List En), entsW (x :: l) = if wordsE x.forms = 0 then entsW l else wordsE x.forms := fun _ _ => rfl
  have hap : ∀ (a b : List En), entsW a = 0 → entsW (a ++ b) = entsW b := by
    intro a b
    induction a with
    | nil => intro _; rfl
    | cons x a ih =>
      intro h
      rw [List.cons_append]
      rw [hc] at h ⊢
      by_cases e : wordsE x.forms = 0
      · rw [if_pos e] at h ⊢; exact ih h
      · rw [if_neg e] at h; exact absurd h e
  constructor
  · rw [List.take_succ_eq_append_getElem hk, hap _ _ h, hc]
    split
    · rename_i e; exact e.symm
    · rfl
  · intro hne
    have e : l = l.take k ++ l[k] :: l.drop (k + 1) := by rw [← List.drop_eq_getElem_cons hk, List.take_append_drop]
    conv => lhs; rw [e]
    rw [hap _ _ h, hc, if_neg hne]
theorem attE_eq (t : List Nd) (laws : List Lw) (on : List (List Int)) (protos : List Fm) (es : List En) : attE t laws on protos es =
    if histE t laws on = 0 then (if 256 < es.length then 12 else if protos.length = es.length ∧ emptyF protos = true then (if entsE (leafs t).length es = 0 then (if wordsE protos = 0 then entsW es else wordsE protos) else entsE (leafs t).length es) else 2) else histE t laws on := by
  unfold attE entsE
  have e : (es.all fun x => decide (x.forms.length = (leafs t).length) && emptyF x.forms) = es.all (entOk (leafs t).length) := rfl
  rw [e]
  by_cases h1 : es.all (entOk (leafs t).length) = true
  · by_cases h2 : es.all (fun x => okName x.gloss) = true
    · simp only [h1, h2, if_true]
    · simp only [h1, h2, if_true]; simp
  · simp only [h1]; simp
end Go.Proofs.YtmepaeahchiglaaGreatDoor
