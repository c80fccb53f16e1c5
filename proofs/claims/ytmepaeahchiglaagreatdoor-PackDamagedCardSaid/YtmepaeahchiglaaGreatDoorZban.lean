/-
  layer 43: the program's PutLaw. Conditions: a law that can be read.
-/
import Derived.Test.YtmepaeahchiglaaGreatDoorZbak
import Derived.Test.YtmepaeahchiglaaGreatDoorZbPjW2
import Derived.Test.YtmepaeahchiglaaGreatDoorZbam
namespace Go.Proofs.YtmepaeahchiglaaGreatDoor
open Go.RowKit Go.Lib

theorem outOk_src32 {x : Ot} {k : Nat} (h : oOk k x = true) (hk : k ≤ 4) (h32 : is32 x.clear ∧ ok32 x.set ∧ is32 x.take) : ok32O x := by
  unfold oOk outOk at h
  simp only [Bool.and_eq_true, decide_eq_true_eq] at h
  obtain ⟨⟨h1, h2⟩, _, _, _, h5⟩ := h
  refine ⟨⟨h1, by omega⟩, h32.1, h32.2.1, h32.2.2, ?_⟩
  by_cases ht : x.take = 0
  · rw [if_pos ht, decide_eq_true_eq] at h5; omega
  · rw [if_neg ht, decide_eq_true_eq] at h5; omega
theorem okLaw_of {l : Lw} (h : lawOk l = true) (h32 : ∀ x ∈ l.outs, is32 x.clear ∧ ok32 x.set ∧ is32 x.take) : okLaw l := by
  unfold lawOk at h
  simp only [Bool.and_eq_true, decide_eq_true_eq] at h
  obtain ⟨h1, h2, h3, h4, h5, h6, h7, h8, h9⟩ := h
  unfold okName at h1
  unfold patOk at h2 h3
  simp only [Bool.and_eq_true, decide_eq_true_eq] at h1 h2 h3
  refine ⟨by omega, h2, h3, by omega, by omega, fun x hx => outOk_src32 (List.all_eq_true.1 h9 x hx) h4 (h32 x hx), by omega, by omega⟩
/-- What PutLaw returns. -/
def putL (l : Lw) : List Nat := if lawOk l then lawB l else []

theorem law_len {w : World} {B : Nat} {l : Lw} {cs : List Value} (hl : LawC w B l cs) : cs.length = 18 := by
  obtain ⟨k1, s1, n1, lo1, hi1, A1, m1, c1, k2, s2, n2, lo2, hi2, A2, m2, c2, A3, c3, A4, c4, rfl, -⟩ := hl.form
  rfl
theorem law_s32 {w : World} {B : Nat} {l : Lw} {cs : List Value} (hl : LawC w B l cs) : ∀ x ∈ l.outs, is32 x.clear ∧ ok32 x.set ∧ is32 x.take := by
  obtain ⟨k1, s1, n1, lo1, hi1, A1, m1, c1, k2, s2, n2, lo2, hi2, A2, m2, c2, A3, c3, A4, c4, rfl, -, -, -, -, -, hs4, -, -⟩ := hl.form
  exact hs4
theorem law_info : (Tryz.prog.info? 62).map (·.size) = some 18 := by kernel_rfl
def isS : Option TypeDesc → Bool
  | some (.struct _) => true
  | _ => false
theorem isS.get {d : Option TypeDesc} (h : isS d = true) : ∃ fs, d = some (.struct fs) := by
  cases d with
  | none => cases h
  | some d => cases d <;> first | exact ⟨_, rfl⟩ | cases h
theorem law_isS : isS (Tryz.prog.underlying 62) = true := by kernel_rfl
theorem law_under : ∃ fs, Tryz.prog.underlying 62 = some (.struct fs) := isS.get law_isS
/-- A law's load: the whole row. -/
theorem law_load {ops : Array Oper} {rest : List Oper} {o : Oper} {a : Act} {w : World} {Q : Exit → Act → World → Prop} (hgd : o.guard = none) (x : Operand) (ho : o.op = .load 62 x)
    (g : Nat) (hx : a.eval x = .pointer (some ⟨g, 0, none⟩)) (cs : List Value) (hlen : cs.length = 18) (hg : w.heap[g]? = some (.cells cs.toArray 62 (0, 0)))
    (h : wpList Tryz.prog ops Q rest (a.put o.dst (.agg cs.toArray)) w) : wpList Tryz.prog ops Q (o :: rest) a w := by
  obtain ⟨fs, hfs⟩ := law_under
  exact wpList_load_row hgd _ x ho g hx _ _ _ _ hg hfs rfl (by rw [law_info, List.size_toArray, hlen]) h
set_option maxRecDepth 20000 in
set_option maxHeartbeats 2000000 in
theorem putLaw_any (w : World) (B : Nat) (l : Lw) (cs : List Value) (hl : LawC w B l cs) (hB : B ≤ w.heap.size) (hnm : l.name.size ≤ maxLen) :
    Calls Tryz.prog 22 #[.agg cs.toArray] w (GivesBE w (putL l) (lawE l)) := by
  have hlen := law_len hl
  have hs4 := law_s32 hl
  have hck := fun W hW => lawCheck_any W B l _ (hl.below (hW : Below B w W)) (by have := hW.size; omega) hnm
  have hwl := fun hok W (hW : Below B w W) hB' => wlaw_any (W.alloc (.cells #[.slice none 0 0] 92)) W.heap.size W.heap.size B l _ [] (own_none rfl) ((hl.below hW).below ((Below.refl _ W).alloc hB' _)) hB' hok (by unfold CAP; simp)
  have hbel0 := (Below.refl w.heap.size w).alloc (Nat.le_refl _) (.cells cs.toArray 62)
  have hb0 := Blk.new w 62 cs.toArray
  obtain ⟨bs, hbs⟩ : ∃ bs, putL l = bs := ⟨_, rfl⟩
  obtain ⟨le, hle⟩ : ∃ le, lawE l = le := ⟨_, rfl⟩
  rw [hbs, hle]
  simp only [hle] at hck
  have HCK := Lib.hid hck; have HWL := Lib.hid hwl; have HE0 := Lib.hid hbel0; have HB0 := Lib.hid hb0; have HLEN := Lib.hid hlen
  unfold putL at hbs
  unfold lawE at hle
  have hokL := fun h => okLaw_of (l := l) h hs4
  have HOKL := Lib.hid hokL
  clear hck hwl hbel0 hb0 hl hs4 hokL hlen
  unfold GivesBE
  by_cases h0 : lawOk l = true
  · rw [if_pos h0] at hbs hle
    subst hle
    have hok := HOKL.out h0
    have HBS := Lib.hid hbs; have HOK := Lib.hid hok
    clear hbs hok h0 HOKL
    go_enter Tryz.func22, Tryz.ntmps22
    go_wp2_with (refine law_load rfl _ rfl _ rfl _ HLEN.out HB0.out ?_; simp only [Act.put, List.setIfInBounds_toArray, List.set_cons_zero, List.set_cons_succ])
    refine (HCK.out _ (HE0.out.mono hB)).mono ?_
    rintro e w1 ⟨rfl, hb1⟩
    have hbx := HB0.out.below hb1 HB0.out.lt
    have hex := HE0.out.trans (hb1.mono HE0.out.size)
    have HBX := Lib.hid (hbx.alloc (.cells #[.slice none 0 0] 92))
    have HEX := Lib.hid hex
    clear hb1 hbx hex
    go_wp2_with (refine law_load rfl _ rfl _ rfl _ HLEN.out HBX.out ?_; simp only [Act.put, List.setIfInBounds_toArray, List.set_cons_zero, List.set_cons_succ])
    refine (HWL.out HOK.out w1 (HEX.out.mono hB) (by have := HEX.out.size; omega)).mono ?_
    rintro e w2 ⟨rfl, h1, h2⟩
    have hw0 := own_none (w := w1) rfl
    have hbl := h2.below hw0
    obtain ⟨v, b1, b2, b3⟩ := h1
    have hc0 := b1.cell 0
    simp only [List.getElem?_toArray, List.getElem?_cons_zero] at hc0
    have hB2 : Below w.heap.size w w2 := (HEX.out.alloc HEX.out.size _).trans (hbl.mono HEX.out.size)
    have HB2 := Lib.hid hB2; have HO := Lib.hid b3
    clear hbl hw0 h2 b1 b2 b3 hB2
    go_wp2
    go_ret2
    refine ⟨_, rfl, ?_, HB2.out⟩
    rw [← HBS.out]
    exact own_mono HO.out HEX.out.size
  · rw [if_neg h0] at hbs hle
    subst hle hbs
    clear h0 HOKL
    go_enter Tryz.func22, Tryz.ntmps22
    go_wp2_with (refine law_load rfl _ rfl _ rfl _ HLEN.out HB0.out ?_; simp only [Act.put, List.setIfInBounds_toArray, List.set_cons_zero, List.set_cons_succ])
    refine (HCK.out _ (HE0.out.mono hB)).mono ?_
    rintro e w1 ⟨rfl, hb1⟩
    have HEX := Lib.hid (HE0.out.trans (hb1.mono HE0.out.size))
    clear hb1
    go_wp2
    go_ret2
    exact ⟨_, rfl, World.ownsRow_nil _ _ _ _, HEX.out⟩
end Go.Proofs.YtmepaeahchiglaaGreatDoor
namespace Go.Proofs.YtmepaeahchiglaaGreatDoor
open Go.RowKit Go.Lib

theorem add_zero_ (a : Addr) : a.add 0 = a := by unfold Addr.add; rw [if_pos rfl]
theorem add_add (a : Addr) (n j : Nat) : (a.add n).add j = a.add (n + j) := by
  cases j with
  | zero => rw [add_zero_, Nat.add_zero]
  | succ j =>
    rw [add_next a n j]
    unfold Addr.add
    rw [if_neg (by omega)]
/-- A law's load out of a list. -/
theorem law_load_at {ops : Array Oper} {rest : List Oper} {o : Oper} {a : Act} {w : World} {Q : Exit → Act → World → Prop} (hgd : o.guard = none) (x : Operand) (ho : o.op = .load 62 x)
    (q : Addr) (hx : a.eval x = .pointer (some q)) (cs : List Value) (hlen : cs.length = 18) (hc : ∀ j u, cs[j]? = some u → w.cell? (q.add j) = some u)
    (h : wpList Tryz.prog ops Q rest (a.put o.dst (.agg cs.toArray)) w) : wpList Tryz.prog ops Q (o :: rest) a w := by
  obtain ⟨fs, hfs⟩ := law_under
  refine wpList_plain hgd fun _ hK => ?_
  have hl : (loadCells q cs.length).run Tryz.prog w = .ok cs.toArray w := run_loadCells_list w q cs hc
  have hrun : (loadVar 62 q).run Tryz.prog w = .ok (.agg cs.toArray) w := by
    have hi := law_info
    cases hq : Tryz.prog.info? 62 with
    | none => rw [hq] at hi; cases hi
    | some i =>
      have hs : i.size = cs.length := by rw [hq] at hi; rw [hlen]; exact Option.some.inj hi
      have hagg : (isAgg 62).run Tryz.prog w = .ok true w := by
        unfold isAgg
        rw [Sem.run_bind, run_underlying hfs w]
        simp
      simp [loadVar, Sem.run_bind, hagg, sizeOf, typeInfo, hq, hs, hl]
  unfold Oper.wp execOp
  simp only [ho, hx, Instr.loadAt, Instr.sureAddr, Sem.run_bind, Sem.run_pure, Result.andThen_ok, hrun]
  exact hK _ _ h
/-- A law's store: the whole row. -/
theorem law_store_ {ops : Array Oper} {rest : List Oper} {o : Oper} {a : Act} {w : World} {Q : Exit → Act → World → Prop} (hgd : o.guard = none) (x y : Operand) (ho : o.op = .store 62 x y)
    (g : Nat) (hx : a.eval x = .pointer (some ⟨g, 0, none⟩)) (cs old : List Value) (hy : a.eval y = .agg cs.toArray) (hlen : cs.length = 18) (h1 : ∀ u ∈ cs, u.oneCell' = true) (hg : Blk w g 62 old.toArray) (hold : old.length = 18)
    (h : wpList Tryz.prog ops Q rest (a.put o.dst undef) (w.setRow g cs.toArray)) : wpList Tryz.prog ops Q (o :: rest) a w :=
  wpList_store_row hgd _ x y ho g cs.toArray hx hy _ old.toArray hg (by rw [law_info, List.size_toArray, hlen]) (by rw [List.size_toArray, List.size_toArray, hlen, hold]) (Array.all_eq_true_iff_forall_mem.2 (fun v hv => h1 v (by simpa using hv))) h
theorem law_one_ {w : World} {B : Nat} {l : Lw} {cs : List Value} (h : LawC w B l cs) : ∀ u ∈ cs, u.oneCell' = true := by
  obtain ⟨k1, s1, n1, lo1, hi1, A1, m1, c1, k2, s2, n2, lo2, hi2, A2, m2, c2, A3, c3, A4, c4, rfl, -⟩ := h.form
  intro u hu
  simp only [lawL, List.mem_cons, List.not_mem_nil, or_false] at hu
  rcases hu with rfl | rfl | rfl | rfl | rfl | rfl | rfl | rfl | rfl | rfl | rfl | rfl | rfl | rfl | rfl | rfl | rfl | rfl <;> rfl
abbrev zlaw : List Value := [.string ⟨#[]⟩, .int .i64 0, .int .u32 0, .int .u32 0, .bool false, .int .i64 0, .int .i64 0, .slice none 0 0, .int .i64 0, .int .u32 0, .int .u32 0, .bool false, .int .i64 0, .int .i64 0, .slice none 0 0, .slice none 0 0, .slice none 0 0, .int .i64 0]
theorem setRow_alloc (w : World) (t : TypeId) (old cs : Array Value) : (w.alloc (.cells old t)).setRow w.heap.size cs = w.alloc (.cells cs t) := by
  unfold World.setRow World.alloc
  congr 1
  apply Array.ext
  · simp
  · intro i h1 h2
    rw [Array.getElem_modify]
    by_cases e : w.heap.size = i
    · subst e
      simp
    · rw [if_neg e]
      simp only [Array.size_modify, Array.size_push] at h1
      rw [Array.getElem_push_lt (by omega), Array.getElem_push_lt (by omega)]
set_option linter.unusedSimpArgs false in
set_option maxRecDepth 20000 in
set_option maxHeartbeats 2000000 in
theorem allLaw_any (w : World) (base g B : Nat) (v : Value) (l : List Lw) (xs : List Nat) (h : Wr w base g xs) (hs : SlC LawC 18 w B l v) (hB : B ≤ base) (hn : l.length ≤ 1000000) (hok : ∀ x ∈ l, okLaw x ∧ (lawB x).length ≤ 100000) (hx : xs.length + 5 + 200000 * l.length ≤ CAP) :
    Calls Tryz.prog 94 #[wptr g, v, .func (.func 64) #[wptr g] #[]] w fun e w' => e = .returned (.tuple #[]) ∧ Wr w' base g (xs ++ allB lawB l) ∧ WStep g w w' := by
  obtain ⟨A, n, c, rfl, hnl⟩ := hs.form
  have hc1 := count_any w base g n xs h (by omega) (by unfold CAP at *; omega)
  have hl := numB_len n
  have HNL := Lib.hid hnl
  have HH := Lib.hid h; have HSL := Lib.hid hs; have HOK := Lib.hid hok
  clear h hs hok hnl
  go_enter Tryz.func94, Tryz.ntmps94
  go_wp2_with fail
  refine hc1.mono ?_
  rintro e w1 ⟨rfl, h1, h2⟩
  have HW := Lib.hid h1; have HST := Lib.hid h2
  clear h1 h2 hc1
  go_wp2
  go_loopw [14] (fun i wr => ∃ k : Nat, k ≤ n ∧ i = .int .i64 k ∧ Wr wr base g (xs ++ numB n ++ (l.take k).flatMap lawB) ∧ WStep g w wr) (fun i _ => n - (RowKit.intOf i).toNat)
  case atStart => exact ⟨0, by omega, rfl, by simpa using HW.out, HST.out⟩
  case round =>
    obtain ⟨k, hk, rfl, hwr, hst⟩ := hrel
    have HWR := Lib.hid hwr; have HST2 := Lib.hid hst
    clear hwr hst
    by_cases hlt : k < n
    · have hkl : k < l.length := by have := HNL.out; omega
      have hkI : (k : Int) < (n : Int) := by omega
      have hk0 : (0 : Int) ≤ (k : Int) := by omega
      have hkeep : ∀ p : Addr, p.block < B → wr.cell? p = w.cell? p := fun p hp => (HST2.out.below HH.out).cell (Nat.lt_of_lt_of_le hp hB)
      obtain ⟨ad, cs, rfl, had, hP, hcc⟩ := slC_cells (w := wr) (by intro x cs h; exact law_len h) (SlC.plain hkeep HSL.out (fun _ _ h => h.keep hkeep)) hkl
      have hlen : (xs ++ numB n ++ (l.take k).flatMap lawB).length + 100000 ≤ CAP := by
        have h2 := flatB_mem (put := lawB) (m := 100000) (l := l.take k) fun x hx => (HOK.out x (List.mem_of_mem_take hx)).2
        rw [List.length_append, List.length_append]
        rw [List.length_take] at h2
        have h3 : 100000 * (min k l.length) + 100000 ≤ 100000 * l.length := by
          rw [Nat.min_eq_left (Nat.le_of_lt hkl), ← Nat.mul_succ]
          exact Nat.mul_le_mul_left _ hkl
        have := HNL.out
        omega
      have hts := take_flat lawB l k hkl
      have hokx := HOK.out _ (List.getElem_mem hkl)
      have h18 := law_len hP
      have hone := law_one_ hP
      have hcell : ∀ j u, cs[j]? = some u → wr.cell? ((ad.add (k * 18)).add j) = some u := fun j u hu => by rw [add_add]; exact hcc j u hu
      have HTS := Lib.hid hts
      clear hts hcc
      generalize l[k] = x at *
      have hcall := wlaw_any (wr.alloc (.cells cs.toArray 62)) base g B x cs _ (HWR.out.alloc _) (hP.keep fun p hp => World.cell?_alloc_lt wr _ p (by have h2 := HH.out.lt; have h3 := HH.out.base_le; have h4 := HST2.out.size; omega)) hB hokx.1 hlen
      have hblk := Blk.new wr 62 cs.toArray
      have hz := Blk.new wr 62 zlaw.toArray
      have hset := setRow_alloc wr 62 zlaw.toArray cs.toArray
      have HCALL := Lib.hid hcall; have HSA := Lib.hid (HST2.out.alloc HWR.out.lt (.cells cs.toArray 62)); have HBLK := Lib.hid hblk; have HZ := Lib.hid hz; have HSET := Lib.hid hset; have H18 := Lib.hid h18; have HONE := Lib.hid hone; have HCELL := Lib.hid hcell
      clear hcall hblk hz hset h18 hone hcell hlen hokx hP hkeep
      go_wp2_with (first | (refine law_load_at rfl _ rfl _ rfl cs H18.out HCELL.out ?_; simp only [Act.put, List.setIfInBounds_toArray, List.set_cons_zero, List.set_cons_succ]) | (refine law_store_ rfl _ _ rfl _ rfl cs zlaw rfl H18.out HONE.out HZ.out rfl ?_; rw [HSET.out]; simp only [Act.put, List.setIfInBounds_toArray, List.set_cons_zero, List.set_cons_succ]) | (refine law_load rfl _ rfl _ rfl _ H18.out HBLK.out ?_; simp only [Act.put, List.setIfInBounds_toArray, List.set_cons_zero, List.set_cons_succ]))
      refine HCALL.out.mono ?_
      rintro e w2 ⟨rfl, h3, h4⟩
      have H3 := Lib.hid h3; have H4 := Lib.hid h4
      clear h3 h4
      go_wp2
      go_roundw
      case rel => exact ⟨k + 1, by omega, by go_num, by rw [HTS.out, ← List.append_assoc]; exact H3.out, HSA.out.trans H4.out⟩
      case measure => simp [RowKit.intOf]; omega
    · obtain rfl : k = n := by omega
      go_wp2
      go_end0
      refine ⟨rfl, ?_, HST2.out⟩
      have := HWR.out
      rw [List.take_of_length_le (by have := HNL.out; omega), List.append_assoc] at this
      show Wr wr base g (xs ++ (numB l.length ++ l.flatMap lawB))
      rw [← HNL.out]; exact this
end Go.Proofs.YtmepaeahchiglaaGreatDoor
namespace Go.Proofs.YtmepaeahchiglaaGreatDoor
open Go.RowKit Go.Lib

theorem law_name {w : World} {B : Nat} {l : Lw} {cs : List Value} (h : LawC w B l cs) : cs[0]? = some (.string l.name) := by
  obtain ⟨q1, q2, A3, c3, A4, c4, rfl, -⟩ := h
  rfl
theorem histE_parts {t : List Nd} {laws : List Lw} {on : List (List Int)} (h : histE t laws on = 0) : treeE t = 0 ∧ laws.length ≤ 64 ∧ (∀ l ∈ laws, lawOk l = true) ∧ on.length = t.length ∧ lensOk t on on.length = true ∧ inRange laws.length on = true := by
  unfold histE at h
  by_cases h1 : treeE t = 0
  · rw [if_pos h1] at h
    by_cases h2 : 64 < laws.length
    · rw [if_pos h2] at h; cases h
    rw [if_neg h2] at h
    by_cases h3 : laws.all lawOk = true
    · rw [if_pos h3] at h
      by_cases h4 : (laws.map fun l => bs l.name).Nodup
      · rw [if_pos h4] at h
        by_cases h5 : on.length = t.length
        · rw [if_pos h5] at h
          by_cases h6 : lensOk t on on.length = true
          · rw [if_pos h6] at h
            by_cases h7 : inRange laws.length on = true
            · exact ⟨h1, by omega, List.all_eq_true.1 h3, h5, h6, h7⟩
            · rw [if_neg h7] at h; cases h
          · rw [if_neg h6] at h; cases h
        · rw [if_neg h5] at h; cases h
      · rw [if_neg h4] at h; cases h
    · rw [if_neg h3] at h; cases h
  · rw [if_neg h1] at h; cases h
set_option linter.unusedSimpArgs false in
set_option maxRecDepth 20000 in
set_option maxHeartbeats 4000000 in
theorem histCheck_any (v4 v5 v6 : Value) (B : Nat) (t : List Nd) (laws : List Lw) (on : List (List Int)) (w : World) (h4 : SlC NdC 2 w B t v4) (h5 : SlC LawC 18 w B laws v5) (h6 : SlC OnC 1 w B on v6) (hB : B ≤ w.heap.size) (hs : ∀ x ∈ t, x.2.size ≤ maxLen) (hln : ∀ l ∈ laws, l.name.size ≤ maxLen) (hon : ∀ l ∈ on, l.length ≤ 1000000000) :
    Calls Tryz.prog 129 #[.agg #[v4, v5, v6]] w fun e w' => e = .returned (.int .i64 (histE t laws on)) ∧ Below w.heap.size w w' := by
  obtain ⟨A4, m4, c4, rfl, e4⟩ := h4.form
  obtain ⟨A5, m5, c5, rfl, e5⟩ := h5.form
  obtain ⟨A6, m6, c6, rfl, e6⟩ := h6.form
  have hm5 := h5.len.2.1
  have hm5' := h5.len.2.2
  obtain ⟨r, hre⟩ : ∃ r, histE t laws on = r := ⟨_, rfl⟩
  rw [hre]
  unfold histE at hre
  have hb0 := (Below.refl w.heap.size w).alloc (Nat.le_refl _) (.cells #[.slice A4 m4 c4, .slice A5 m5 c5, .slice A6 m6 c6] 29)
  have hk0 := Blk.new w 29 #[.slice A4 m4 c4, .slice A5 m5 c5, .slice A6 m6 c6]
  have hkp := fun (W : World) (hW : Below w.heap.size w W) => fun (p : Addr) (hp : p.block < B) => hW.cell (p := p) (Nat.lt_of_lt_of_le hp hB)
  obtain ⟨W0, hW0⟩ : ∃ W, w.alloc (.cells #[.slice A4 m4 c4, .slice A5 m5 c5, .slice A6 m6 c6] 29) = W := ⟨_, rfl⟩
  rw [hW0] at hb0 hk0
  have htc := treeCheck_any (.slice A4 m4 c4) B t W0 (SlC.plain (hkp W0 hb0) h4 (fun _ _ h => h)) (by have := hb0.size; omega) hs
  have HRE := Lib.hid hre; have H4 := Lib.hid h4; have H5 := Lib.hid h5; have H6 := Lib.hid h6; have HS := Lib.hid hs; have HLN := Lib.hid hln; have HON := Lib.hid hon; have HKP := Lib.hid hkp; have E4 := Lib.hid e4; have E5 := Lib.hid e5; have E6 := Lib.hid e6; have HTC := Lib.hid htc; have HB0 := Lib.hid hb0; have HK0 := Lib.hid hk0; have HW := Lib.hid hW0
  have g0 := hk0.cell 0
  simp only [List.getElem?_toArray, List.getElem?_cons_zero] at g0
  unfold maxLen at hm5'
  clear hre h4 h5 h6 hs hln hon hkp e4 e5 e6 htc hb0 hk0 hW0
  go_enter Tryz.func129, Tryz.ntmps129
  go_wp2_with (rw [HW.out])
  refine HTC.out.mono ?_
  rintro e w1 ⟨rfl, hb1⟩
  have hsz0 := HK0.out.lt
  have HB1 := Lib.hid (HB0.out.trans (hb1.mono HB0.out.size)); have HK1 := Lib.hid (HK0.out.below hb1 hsz0)
  have hs1 := hb1.size
  clear hb1 g0 HTC HW
  have g1 := HK1.out.cell 1
  simp only [List.getElem?_toArray, List.getElem?_cons_zero, List.getElem?_cons_succ] at g1
  by_cases ht : treeE t = 0
  case neg =>
    have htI : (treeE t != (0 : Int)) = true := by rw [bne_iff_ne]; exact ht
    obtain rfl : r = 16 := by rw [← HRE.out, if_neg ht]
    clear ht
    go_wp2
    go_ret
    exact ⟨rfl, HB1.out⟩
  have htI : (treeE t != (0 : Int)) = false := by rw [ht]; rfl
  have hre := HRE.out
  rw [if_pos ht] at hre
  have HT := Lib.hid ht
  by_cases h64 : 64 < m5
  · have h64I : (64 : Int) < (m5 : Int) := by omega
    obtain rfl : r = 12 := by rw [← hre, if_pos (by rw [← E5.out]; exact h64)]
    clear hre HRE ht
    go_wp2
    go_ret
    exact ⟨rfl, HB1.out⟩
  have h64I : ¬ (64 : Int) < (m5 : Int) := by omega
  rw [if_neg (by rw [← E5.out]; exact h64)] at hre
  have HRE := Lib.hid hre
  have hmm := @run_makeMap Tryz.prog
  have hbm := HB1.out.alloc HB1.out.size (.map #[] 0)
  have hkm := HK1.out.alloc (.map #[] 0)
  have hmp := MapCt.made w1
  have hne : w.heap.size ≠ w1.heap.size := by omega
  have HBM := Lib.hid hbm; have HKM := Lib.hid hkm; have HMP := Lib.hid hmp
  have g1 := hkm.cell 1
  simp only [List.getElem?_toArray, List.getElem?_cons_zero, List.getElem?_cons_succ] at g1
  clear hbm hkm hmp hre ht h64
  go_wp2
  go_loopw [18] (fun i wr => ∃ k : Nat, k ≤ m5 ∧ i = .int .i64 k ∧ (laws.take k).all lawOk = true ∧ MapCt wr w1.heap.size ((laws.take k).map fun l => bs l.name) ∧ Blk wr w.heap.size 29 #[.slice A4 m4 c4, .slice A5 m5 c5, .slice A6 m6 c6] ∧ Below w.heap.size w wr ∧ w1.heap.size < wr.heap.size) (fun i _ => m5 - (RowKit.intOf i).toNat)
  case atStart => exact ⟨0, by omega, rfl, by simp, HMP.out, HKM.out, HBM.out, by simp⟩
  case round =>
    obtain ⟨k, hk, rfl, hall, hmp, hbk, hbw, hsz⟩ := hrel
    have HALL := Lib.hid hall; have HMP2 := Lib.hid hmp; have HBK := Lib.hid hbk; have HBW := Lib.hid hbw
    clear hall hmp hbk hbw g1
    by_cases hlt : k < m5
    · have hkl : k < laws.length := by have := E5.out; omega
      have hkI : (k : Int) < (m5 : Int) := by omega
      have hk0 : (0 : Int) ≤ (k : Int) := by omega
      have hkeep := HKP.out wr HBW.out
      obtain ⟨ad, cs, rfl, had, hP, hcc⟩ := slC_cells (w := wr) (by intro x cs h; exact law_len h) (SlC.plain hkeep H5.out (fun _ _ h => h.keep hkeep)) hkl
      have hcell : ∀ j u, cs[j]? = some u → wr.cell? ((ad.add (k * 18)).add j) = some u := fun j u hu => by rw [add_add]; exact hcc j u hu
      have h18 := law_len hP
      have hone := law_one_ hP
      have hnm0 := law_name hP
      have hnmz := HLN.out _ (List.getElem_mem hkl)
      have htk : (laws.take (k + 1)).all lawOk = ((laws.take k).all lawOk && lawOk laws[k]) := by rw [List.take_succ_eq_append_getElem hkl, List.all_append]; simp
      have htn : ((laws.take (k + 1)).map fun l => bs l.name) = ((laws.take k).map fun l => bs l.name) ++ [laws[k].name.data.toList] := by rw [List.take_succ_eq_append_getElem hkl, List.map_append]; rfl
      have hbadl : lawOk laws[k] = false → ¬ laws.all lawOk = true := fun h h2 => by rw [List.all_eq_true.1 h2 _ (List.getElem_mem hkl)] at h; cases h
      rw [HALL.out, Bool.true_and] at htk
      generalize laws[k] = x at *
      have hlc := lawCheck_any (wr.alloc (.cells cs.toArray 62)) B x cs (hP.keep fun p hp => World.cell?_alloc_lt wr _ p (by have := HBW.out.size; omega)) (by rw [World.size_alloc]; have := HBW.out.size; omega) hnmz
      have hblk := Blk.new wr 62 cs.toArray
      have hz := Blk.new wr 62 zlaw.toArray
      have hset := setRow_alloc wr 62 zlaw.toArray cs.toArray
      have HLC := Lib.hid hlc; have HBA := Lib.hid (HBW.out.alloc HBW.out.size (.cells cs.toArray 62)); have HBLK := Lib.hid hblk; have HZ := Lib.hid hz; have HSET := Lib.hid hset; have H18 := Lib.hid h18; have HONE := Lib.hid hone; have HCELL := Lib.hid hcell; have HNM := Lib.hid hnm0; have HTK := Lib.hid htk; have HTN := Lib.hid htn; have HBAD := Lib.hid hbadl
      have HMA := Lib.hid (HMP2.out.below ((Below.refl _ wr).alloc (Nat.le_refl _) (.cells cs.toArray 62))); have HKA := Lib.hid (HBK.out.alloc (.cells cs.toArray 62))
      clear hlc hblk hz hset h18 hone hcell hP hkeep hcc hnm0 htk htn hbadl
      go_wp2_with (first | (refine law_load_at rfl _ rfl _ rfl cs H18.out HCELL.out ?_; simp only [Act.put, List.setIfInBounds_toArray, List.set_cons_zero, List.set_cons_succ]) | (refine law_store_ rfl _ _ rfl _ rfl cs zlaw rfl H18.out HONE.out HZ.out rfl ?_; rw [HSET.out]; simp only [Act.put, List.setIfInBounds_toArray, List.set_cons_zero, List.set_cons_succ]) | (refine law_load rfl _ rfl _ rfl _ H18.out HBLK.out ?_; simp only [Act.put, List.setIfInBounds_toArray, List.set_cons_zero, List.set_cons_succ]))
      refine HLC.out.mono ?_
      rintro e w5 ⟨rfl, hb5⟩
      have HB5 := Lib.hid (HBA.out.trans (hb5.mono HBA.out.size)); have HM5 := Lib.hid (HMA.out.below hb5); have HK5 := Lib.hid (HKA.out.below hb5 HKA.out.lt)
      have hx5 := HBLK.out.below hb5 HBLK.out.lt
      have hn5 : w5.cell? ⟨wr.heap.size, 0, none⟩ = some (.string x.name) := by
        rw [hx5.cell 0, List.getElem?_toArray]
        exact HNM.out
      have hs5 := hb5.size
      rw [World.size_alloc] at hs5
      clear hb5 hx5 HMA HKA HLC
      cases hq : lawOk x with
      | false =>
        have hqe : (lawE x != (0 : Int)) = true := by simp [lawE_no hq]
        obtain rfl : r = 17 := by rw [← HRE.out, if_neg (HBAD.out hq)]
        clear hq
        go_wp2
        go_ret
        exact ⟨rfl, HB5.out⟩
      | true =>
        have hqe : (lawE x != (0 : Int)) = false := by simp [lawE_yes hq]
        have hall2 := HTK.out
        rw [hq] at hall2
        have HALL2 := Lib.hid hall2
        obtain ⟨c, hc0, hc1, hlook⟩ := HM5.out.look x.name hnmz
        have hlen : ((laws.take k).map fun l => bs l.name).length = k := by rw [List.length_map, List.length_take]; omega
        rw [hlen] at hc1
        have HLEN := Lib.hid hlen
        clear hq hall2 hlen
        go_wp2_with (at_mapUpdate; (refine wpList_putCt rfl _ _ _ rfl w1.heap.size _ rfl HM5.out (by have := HLEN.out; omega) x.name hnmz (c + 1) (by omega) (by have := HLEN.out; omega) rfl rfl ?_; intro w6 hmap6 hg6))
        rw [← HTN.out] at hmap6
        have hb6 := HB5.out.grown hg6 HB5.out.size (fun j hj => by injection hj with hj; omega)
        have hk6 := HK5.out.grown hg6 (fun e => by injection e with e; omega)
        have hs6 := hg6.size
        go_roundw
        case rel => exact ⟨k + 1, by omega, by go_num, HALL2.out, hmap6, hk6, hb6, by omega⟩
        case measure => simp [RowKit.intOf]; omega
    · obtain rfl : k = m5 := by omega
      have hall := HALL.out
      have hmp := HMP2.out
      rw [List.take_of_length_le (by have := E5.out; omega)] at hall hmp
      have hre := HRE.out
      rw [if_pos hall] at hre
      obtain ⟨nn, hlenr, hnn⟩ := hmp.len 3
      have g0 := HBK.out.cell 0; have g1 := HBK.out.cell 1; have g2 := HBK.out.cell 2
      simp only [List.getElem?_toArray, List.getElem?_cons_zero, List.getElem?_cons_succ] at g0 g1 g2
      have hnl : (laws.map fun l => bs l.name).length = k := by rw [List.length_map]; exact E5.out.symm
      rw [hnl] at hnn
      clear hall hmp
      by_cases hnd : (laws.map fun l => bs l.name).Nodup
      case neg =>
        rw [if_neg hnd] at hre
        subst hre
        have hnI : (nn : Int) < (k : Int) := by rcases hnn with h | h; exact absurd h.2 hnd; omega
        clear hnd hnn
        go_wp2
        go_ret
        exact ⟨rfl, HBW.out⟩
      rw [if_pos hnd] at hre
      have hnI : ¬ (nn : Int) < (k : Int) := by rcases hnn with h | h; omega; exact absurd hnd h.2
      by_cases hl : on.length = t.length
      case neg =>
        rw [if_neg hl] at hre
        subst hre
        have hlI : ((m6 : Int) != (m4 : Int)) = true := by rw [bne_iff_ne]; have := E4.out; have := E6.out; omega
        clear hnd hnn hl
        go_wp2
        go_ret
        exact ⟨rfl, HBW.out⟩
      rw [if_pos hl] at hre
      have hlI : ((m6 : Int) != (m4 : Int)) = false := by rw [bne_eq_false_iff_eq]; have := E4.out; have := E6.out; omega
      have hkeep := HKP.out wr HBW.out
      have hli := hlists_any (.slice A4 m4 c4) (.slice A6 m6 c6) A5 k c5 B t on wr (SlC.plain hkeep H4.out (fun _ _ h => h)) (SlC.plain hkeep H6.out (fun _ _ h => OnC.keep hkeep h)) (Nat.le_trans hB HBW.out.size) HT.out hl HON.out
      rw [show laws.length = k from E5.out.symm] at hre
      rw [hre] at hli
      have HLI := Lib.hid hli
      clear hli hre hkeep hnd hnn hl
      go_wp2_with fail
      refine HLI.out.mono ?_
      rintro e w9 ⟨rfl, hb9⟩
      have HB9 := Lib.hid (HBW.out.trans (hb9.mono HBW.out.size))
      clear hb9
      go_wp2
      go_ret
      exact ⟨rfl, HB9.out⟩
end Go.Proofs.YtmepaeahchiglaaGreatDoor
