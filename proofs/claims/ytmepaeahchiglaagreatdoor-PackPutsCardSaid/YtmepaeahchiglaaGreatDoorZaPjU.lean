/-
  layer 43: the program's Put of a project. Conditions: what can be read.
-/
import Derived.Test.YtmepaeahchiglaaGreatDoorZaav
import Derived.Test.YtmepaeahchiglaaGreatDoorZaPjS
namespace Go.Proofs.YtmepaeahchiglaaGreatDoor
open Go.RowKit Go.Lib

set_option linter.unusedSimpArgs false in
set_option maxRecDepth 20000 in
theorem four_any (n : Nat) (hn : n < 4294967296) (w : World) : Calls Tryz.prog 37 #[.int .u32 (n : Int)] w (GivesB w (fourB n)) := by
  go_enter Tryz.func37, Tryz.ntmps37
  go_wp2
  go_ret
  refine ⟨_, rfl, ?_, (Below.refl w.heap.size w).alloc (Nat.le_refl _) _⟩
  have e : (n : Int) / 16777216 = ((n / 16777216 % 256 : Nat) : Int) := by omega
  rw [e]
  exact World.ownsRow_lit (base := w.heap.size) (e := 5) (size := 1) w ((fourB n).map bv).toArray 4 (Nat.le_refl _) (by unfold maxLen; omega) rfl
/-! The bytes of a project are bytes. -/
theorem app_lt {a b : List Nat} (h1 : ∀ c ∈ a, c < 256) (h2 : ∀ c ∈ b, c < 256) : ∀ c ∈ a ++ b, c < 256 := fun c hc => (List.mem_append.1 hc).elim (h1 c) (h2 c)
theorem flat_lt {α : Type} {f : α → List Nat} {l : List α} (h : ∀ x, ∀ c ∈ f x, c < 256) : ∀ c ∈ l.flatMap f, c < 256 := fun c hc => by
  obtain ⟨x, _, hx⟩ := List.mem_flatMap.1 hc
  exact h x c hx
theorem allB_lt {α : Type} {f : α → List Nat} (h : ∀ x, ∀ c ∈ f x, c < 256) (l : List α) : ∀ c ∈ allB f l, c < 256 := app_lt (numB_lt _) (flat_lt h)
theorem formB_lt (f : Fm) : ∀ c ∈ formB f, c < 256 := by
  unfold formB
  refine app_lt (numB_lt _) ?_
  split
  · exact wordB_lt _
  · intro c hc; cases hc
theorem projB_lt (p : Pj) : ∀ c ∈ projB p, c < 256 := by
  unfold projB
  refine app_lt (allB_lt textB_lt _) (app_lt (allB_lt (fun x => app_lt (textB_lt _) (sndB_lt _)) _) (app_lt (allB_lt (fun x => app_lt (textB_lt _) (app_lt (numB_lt _) (sndB_lt _))) _) (app_lt (allB_lt (fun x => app_lt (numB_lt _) (textB_lt _)) _) (app_lt (allB_lt lawB_lt _) (app_lt (flat_lt fun x => allB_lt (fun k => numB_lt _) x) (app_lt (allB_lt formB_lt _) (allB_lt (fun x => app_lt (textB_lt _) (allB_lt formB_lt _)) _)))))))
def magB : List Nat := [97, 98, 108, 49]
def bodyB (p : Pj) : List Nat := magB ++ projB p
theorem bodyB_lt (p : Pj) : ∀ c ∈ bodyB p, c < 256 := app_lt (by unfold magB; decide) (projB_lt p)
def putP (p : Pj) : List Nat := if projE p = 0 then bodyB p ++ fourB (sumB (bodyB p)) else []
theorem sumB_lt {b : List Nat} (h : ∀ c ∈ b, c < 256) : sumB b < 4294967296 := by
  unfold sumB
  exact Nat.xor_lt_two_pow (n := 32) (by decide) (crcAll_lt b (by decide) h)
theorem u8_nat {l : List Nat} (h : ∀ c ∈ l, c < 256) : (l.map UInt8.ofNat).map UInt8.toNat = l := by
  induction l with
  | nil => rfl
  | cons c l ih =>
    rw [List.map_cons, List.map_cons, ih fun d hd => h d (List.mem_cons_of_mem _ hd)]
    have := h c (List.mem_cons_self ..)
    congr 1
    simp; omega
theorem readB_of {w : World} {B n : Nat} {A : Option Addr} {l : List Nat} (h : Reads w B 1 A n (l.map bv)) (hl : ∀ c ∈ l, c < 256) : ReadB w B A n (l.map UInt8.ofNat) := by
  have e : (l.map UInt8.ofNat).map (fun u : UInt8 => Value.int .u8 (u.toNat : Int)) = l.map bv := by
    rw [List.map_map]
    refine List.map_congr_left fun c hc => ?_
    have := hl c hc
    show Value.int .u8 _ = Value.int .u8 _
    simp
    omega
  unfold ReadB
  rw [e]
  exact h
theorem append_types {P : Program} (w : World) {t u ty e e' : TypeId} {i : TypeInfo} (hi : P.info? e = some i) (ht : P.underlying t = some (.slice e)) (hu : P.underlying u = some (.slice e')) (x y : Value) : (Builtin.append_ #[t, u] ty #[x, y]).run P w = (Builtin.append_ #[t, t] ty #[x, y]).run P w := by
  cases x <;> simp [Builtin.append_, run_underlying ht, run_underlying hu, sizeOf, typeInfo, hi]
/-- An append whose two arguments have types of two names. -/
theorem step_append_two {P : Program} {w : World} {ops : Array Oper} {o : Oper} {a : Act} {K : Act → World → Prop} {Q : Exit → Act → World → Prop} {E : Prop} (hgd : o.guard = none) (s x : Operand) (t u : TypeId)
    (ho : o.op = .call { callee := .builtin .append, args := #[s, x], argTypes := #[t, u] })
    (base : Nat) (e : TypeId) (i : TypeInfo) (z : Value) (size bytes : Nat) (ht : P.underlying t = some (.slice e)) (hu : P.underlying u = some (.slice e)) (hi : P.info? e = some i) (hz : i.zero = some z)
    (hsize : i.size = size) (hby : i.bytes = bytes) (hzs : z.cells.size = size) (hsz : 0 < size)
    (v : Value) (n : Nat) (xs : List Value) (hs : a.eval s = v) (hown : w.ownsRow base e size v n xs)
    (B : Nat) (A : Option Addr) (m c : Nat) (news : List Value) (hx : a.eval x = .slice A m c) (hr : Reads w B size A m news) (h1 : ∀ u ∈ news, u.oneCell' = true)
    (h63 : n + m ≤ maxLen) (hbytes : (n + m) * bytes ≤ 140737488355328) (hbase : base ≤ w.heap.size)
    (h : ∀ v' w', w'.ownsRow base e size v' (n + m) (xs ++ news) → w.grownBy w' v.ownBlock → (v'.ownBlock = v.ownBlock ∨ v'.ownBlock = some w.heap.size) → K (a.put o.dst v') w') :
    if Region.wanted o (yielded ops a.tmps) = true then Oper.wp P o a w K Q else E := by
  have hw : Region.wanted o (yielded ops a.tmps) = true := by simp [Region.wanted, hgd]
  rw [if_pos hw]
  obtain ⟨v', w', hrun, h2, h3, h4⟩ := run_append_any (P := P) w base t o.type e i z size bytes ht hi hz hsize hby hzs hsz v n xs hown B A m c news hr h1 h63 hbytes hbase
  rw [← append_types w hi ht hu] at hrun
  unfold Oper.wp execOp
  simp only [ho, resolve, invoke, builtin, Sem.run_bind, Sem.run_pure, Result.andThen_ok, List.map_toArray, List.map_cons, List.map_nil, hs, hx, hrun]
  exact h v' w' h2 h3 h4
theorem bodyB_len {p : Pj} (h : PjOk p) : (bodyB p).length ≤ 3000000000 := by
  obtain ⟨l1, l2, l3, l4, l5, l6, l7, l8⟩ := h.lens
  have hf := flatB_mem (put := allB intB) (m := 6000) (l := p.on) l6
  have := h.n6
  unfold bodyB magB projB
  simp only [List.length_append, List.length_cons, List.length_nil]
  omega
theorem feats_few {p : Pj} (h : projE p = 0) : p.feats.length < 128 := by
  unfold projE at h
  by_cases h1 : toolsE p = 0
  case neg => rw [if_neg h1] at h; exact absurd h h1
  unfold toolsE at h1
  by_cases h2 : newE p.feats = 0
  case neg => rw [if_neg h2] at h1; exact absurd h1 h2
  have := (newE_small h2).1
  omega
set_option linter.unusedSimpArgs false in
set_option maxRecDepth 20000 in
set_option maxHeartbeats 4000000 in
theorem put_any (w : World) (B : Nat) (p : Pj) (cs : List Value) (hp : ProjC w B p cs) (hB : B ≤ w.heap.size) (hr : PjRd p) (h32 : ∀ l ∈ p.laws, ∀ x ∈ l.outs, is32 x.clear ∧ ok32 x.set ∧ is32 x.take) :
    Calls Tryz.prog 10 #[.agg cs.toArray] w (GivesBE w (putP p) (projE p)) := by
  obtain ⟨i0, hi, hz0, hz1, hz2⟩ := info_parts (show (Tryz.prog.info? 5).map (fun i => (i.zero, i.size, i.bytes)) = some (some (.int .u8 0), 1, 1) by kernel_rfl)
  obtain ⟨v1, v2, v3, v4, v5, v6, v7, v8, rfl, q1, q2, q3, q4, q5, q6, q7, q8⟩ := hp
  have hp : ProjC w B p [v1, v2, v3, v4, v5, v6, v7, v8] := ⟨_, _, _, _, _, _, _, _, rfl, q1, q2, q3, q4, q5, q6, q7, q8⟩
  obtain ⟨A1, m1, c1, rfl, -⟩ := q1.form
  obtain ⟨A2, m2, c2, rfl, -⟩ := q2.form
  obtain ⟨A3, m3, c3, rfl, -⟩ := q3.form
  obtain ⟨A4, m4, c4, rfl, -⟩ := q4.form
  obtain ⟨A5, m5, c5, rfl, -⟩ := q5.form
  obtain ⟨A6, m6, c6, rfl, -⟩ := q6.form
  obtain ⟨A7, m7, c7, rfl, -⟩ := q7.form
  obtain ⟨A8, m8, c8, rfl, -⟩ := q8.form
  obtain ⟨o, ho⟩ : ∃ o, Obj.cells #[.slice A1 m1 c1, .slice A2 m2 c2, .slice A3 m3 c3, .slice A4 m4 c4, .slice A5 m5 c5, .slice A6 m6 c6, .slice A7 m7 c7, .slice A8 m8 c8] 33 = o := ⟨_, rfl⟩
  have hb0 := (Below.refl w.heap.size w).alloc (Nat.le_refl _) o
  have hk0 := Blk.new w 33 #[.slice A1 m1 c1, .slice A2 m2 c2, .slice A3 m3 c3, .slice A4 m4 c4, .slice A5 m5 c5, .slice A6 m6 c6, .slice A7 m7 c7, .slice A8 m8 c8]
  rw [ho] at hk0
  have hle1 : w.heap.size ≤ (w.alloc o).heap.size := by rw [World.size_alloc]; omega
  have hlt1 : w.heap.size < (w.alloc o).heap.size := by rw [World.size_alloc]; omega
  have hkp := fun (W : World) (hW : Below w.heap.size w W) => fun (q : Addr) (hq : q.block < B) => hW.cell (p := q) (Nat.lt_of_lt_of_le hq hB)
  have hck := check_any (w.alloc o) B p _ (ProjC.keep (hkp _ hb0) hp) (Nat.le_trans hB hle1) hr
  have hwr := fun (W : World) (base g : Nat) (hW : Below w.heap.size w W) (hw : WrS W base g magB) (hBb : B ≤ base) (hok : PjOk p) (h24 : p.feats.length < 128) => projectS_any W base g B p _ magB hw (ProjC.keep (hkp _ hW) hp) hBb hok h24 (by unfold magB; decide)
  have hpo := fun h => And.intro (PjOk.of (p := p) h hr h32) (feats_few h)
  have g0 := hk0.cell 0
  have g1 := hk0.cell 1
  have g2 := hk0.cell 2
  have g3 := hk0.cell 3
  have g4 := hk0.cell 4
  have g5 := hk0.cell 5
  have g6 := hk0.cell 6
  have g7 := hk0.cell 7
  simp only [List.getElem?_toArray, List.getElem?_cons_zero, List.getElem?_cons_succ] at g0 g1 g2 g3 g4 g5 g6 g7
  have HO := Lib.hid ho; have HB0 := Lib.hid hb0; have HK0 := Lib.hid hk0; have HWR := Lib.hid hwr; have HBW := Lib.hid hB
  clear q1 q2 q3 q4 q5 q6 q7 q8 ho hb0 hk0 hwr hkp hp hr h32 hB
  obtain ⟨ys, hys⟩ : ∃ ys, putP p = ys := ⟨_, rfl⟩
  rw [hys]
  unfold putP at hys
  obtain ⟨x, hx⟩ : ∃ x, projE p = x := ⟨_, rfl⟩
  rw [hx] at hck hys hpo ⊢
  have HCK := Lib.hid hck; have HPO := Lib.hid hpo
  have HYS := Lib.hid hys
  clear hys hx hck hpo
  unfold GivesBE
  go_enter Tryz.func10, Tryz.ntmps10
  go_wp2_with (rw [HO.out])
  refine HCK.out.mono ?_
  rintro e w1 ⟨rfl, hb1⟩
  have HB1 := Lib.hid (HB0.out.trans (hb1.mono hle1)); have HK1 := Lib.hid (HK0.out.below hb1 hlt1)
  have hs1 : w.heap.size < w1.heap.size := Nat.lt_of_lt_of_le hlt1 hb1.size
  clear hb1 g0 g1 g2 g3 g4 g5 g6 g7 HCK
  by_cases hz : x = 0
  case neg =>
    have hzI : (x != (0 : Int)) = true := by rw [bne_iff_ne]; exact hz
    have hys := HYS.out
    rw [if_neg hz] at hys
    subst hys
    clear hz
    go_wp2
    go_ret2
    exact ⟨_, rfl, World.ownsRow_nil _ _ _ _, HB1.out⟩
  have HOK := Lib.hid (HPO.out hz)
  have hys := HYS.out
  rw [if_pos hz] at hys
  subst hz
  have HYS := Lib.hid hys
  clear hys
  have hwr : WrS ((w1.alloc (.cells #[.int .u8 97, .int .u8 98, .int .u8 108, .int .u8 49] 5 (4, 5))).alloc (.cells #[.slice (some ⟨w1.heap.size, 0, none⟩) 4 4] 92)) w1.heap.size (w1.heap.size + 1) magB := by
    refine ⟨w1.heap.size, (4, 5), ?_, Nat.le_succ _, Nat.le_refl _, ?_⟩
    · have := Blk.new (w1.alloc (.cells #[.int .u8 97, .int .u8 98, .int .u8 108, .int .u8 49] 5 (4, 5))) 92 #[.slice (some ⟨w1.heap.size, 0, none⟩) 4 4]
      rw [World.size_alloc] at this
      exact this
    · exact (Below.heap_alloc _ _ _ (by rw [World.size_alloc]; omega)).trans (heap_alloc_new w1 _)
  have hb2 := (HB1.out.alloc HB1.out.size (.cells #[.int .u8 97, .int .u8 98, .int .u8 108, .int .u8 49] 5 (4, 5))).alloc (by rw [World.size_alloc]; omega) (.cells #[.slice (some ⟨w1.heap.size, 0, none⟩) 4 4] 92)
  obtain ⟨w2, hw2⟩ : ∃ W, (w1.alloc (.cells #[.int .u8 97, .int .u8 98, .int .u8 108, .int .u8 49] 5 (4, 5))).alloc (.cells #[.slice (some ⟨w1.heap.size, 0, none⟩) 4 4] 92) = W := ⟨_, rfl⟩
  have hk2 := (HK1.out.alloc (.cells #[.int .u8 97, .int .u8 98, .int .u8 108, .int .u8 49] 5 (4, 5))).alloc (.cells #[.slice (some ⟨w1.heap.size, 0, none⟩) 4 4] 92)
  rw [hw2] at hwr hb2 hk2
  have hcall := HWR.out w2 _ _ hb2 hwr (by have := HBW.out; omega) HOK.out.1 HOK.out.2
  have HCALL := Lib.hid hcall; have HW2 := Lib.hid hw2; have HB2 := Lib.hid hb2; have HWR2 := Lib.hid hwr
  have g0 := HK1.out.cell 0
  have f0 := hk2.cell 0
  have g1 := HK1.out.cell 1
  have f1 := hk2.cell 1
  have g2 := HK1.out.cell 2
  have f2 := hk2.cell 2
  have g3 := HK1.out.cell 3
  have f3 := hk2.cell 3
  have g4 := HK1.out.cell 4
  have f4 := hk2.cell 4
  have g5 := HK1.out.cell 5
  have f5 := hk2.cell 5
  have g6 := HK1.out.cell 6
  have f6 := hk2.cell 6
  have g7 := HK1.out.cell 7
  have f7 := hk2.cell 7
  simp only [List.getElem?_toArray, List.getElem?_cons_zero, List.getElem?_cons_succ] at g0 f0 g1 f1 g2 f2 g3 f3 g4 f4 g5 f5 g6 f6 g7 f7
  have hzI : ((0 : Int) != 0) = false := rfl
  have kc := fun (W : World) (C : Array Value) (n c : Nat) => Lib.run_convert_bytes_const (P := Tryz.prog) W 92 5 C n c Tryz.underlying92 Tryz.underlying5
  clear hwr hb2 hcall hw2 hk2 HWR HPO
  go_wp2_with (rw [HW2.out])
  refine HCALL.out.mono ?_
  rintro e w3 ⟨rfl, hw3, hst⟩
  have HB3 := Lib.hid (HB2.out.trans ((hst.belowS HWR2.out).mono (by omega)))
  clear hst g0 f0 g1 f1 g2 f2 g3 f3 g4 f4 g5 f5 g6 f6 g7 f7 HCALL kc
  have hpj : magB ++ projB p = bodyB p := rfl
  rw [hpj] at hw3
  obtain ⟨v, k1, k2, k3⟩ := hw3
  have hzl := bodyB_len HOK.out.1
  have hzb := bodyB_lt p
  have hys := HYS.out
  rw [if_pos trivial] at hys
  obtain ⟨zs, hzs⟩ : ∃ zs, bodyB p = zs := ⟨_, rfl⟩
  rw [hzs] at k3 hzl hzb hys
  obtain ⟨A, c, rfl, hn1, hn2⟩ := ownsRow_form k3
  have hsum := fun (W : World) (h : W.ownsRow w1.heap.size 5 1 (.slice A zs.length c) zs.length (zs.map bv)) => sum_any A zs.length c (zs.map UInt8.ofNat) W (readB_of (Reads.of_own h) hzb) (by unfold maxLen; omega)
  rw [u8_nat hzb] at hsum
  have hq := sumB_lt hzb
  obtain ⟨q, hqq⟩ : ∃ q, sumB zs = q := ⟨_, rfl⟩
  rw [hqq] at hsum hq hys
  have hfour := four_any q hq
  have hfl : (fourB q).length = 4 := rfl
  unfold GivesB at hfour
  generalize fourB q = f4 at *
  have gw := k1.cell 0
  have hne : (Value.slice A zs.length c).ownBlock ≠ some (w1.heap.size + 1) := own_blk_ne k3 k1 (by decide)
  simp only [List.getElem?_toArray, List.getElem?_cons_zero, List.getElem?_cons_succ] at gw
  have HSUM := Lib.hid hsum; have HFOUR := Lib.hid hfour; have HK1W := Lib.hid k1; have HK3 := Lib.hid k3; have HK3d : Hid (w3.drew.ownsRow w1.heap.size 5 1 (.slice A zs.length c) zs.length (zs.map bv)) := Lib.hid k3; have HYS3 := Lib.hid hys; have HFL := Lib.hid hfl
  have hlt3 := k1.lt
  clear hsum hfour k1 k3 hys hzb hqq hpj hzs hfl hq HYS
  go_wp2
  go_region_law (first
    | (refine step_append_two rfl (.tmp 15) (.tmp 18) 92 36 rfl w1.heap.size 5 i0 (.int .u8 0) 1 1 Tryz.underlying92 Tryz.underlying36 hi hz0 hz1 hz2 rfl (by decide) _ _ _ rfl (own_below' HK3d.out hbb) _ _ _ _ (f4.map bv) rfl (Reads.of_own hob) (bv_one _) (by unfold maxLen; rw [HFL.out]; omega) (by rw [HFL.out]; omega) (by omega) ?_; intro v' w5 hown' hgrow hx'; clear hx')
    | (go_simp; go_at_call 19; (with_reducible refine (HSUM.out _ HK3d.out).mono ?_); rintro e ws ⟨rfl, rfl⟩)
    | (go_simp; go_at_call 37; (with_reducible refine (HFOUR.out _).mono ?_); rintro e wb ⟨vb, rfl, hob, hbb⟩; replace hob := own_mono hob (show w1.heap.size ≤ _ by first | omega | (simp; done) | (simp; omega)); have hsz := hbb.size; (try simp at hsz); obtain ⟨Ab, cb, rfl, _, _⟩ := ownsRow_form hob; obtain ⟨hcell, _⟩ := bcell hbb; have hcw : wb.cell? ⟨w1.heap.size + 1, 0, none⟩ = some (.slice A zs.length c) := (hcell _ _ hlt3).trans gw))
  all_goals
    have hb5 : Below w.heap.size w w5 := ((HB3.out.drew).trans (hbb.mono (HB3.out.size))).grown hgrow (by have := HB3.out.size; omega) (fun g hg => by have := (HK3.out.lt g hg).1; omega)
    have HO5 := Lib.hid hown'; have HB5 := Lib.hid hb5
    clear hown' hb5 hgrow hbb hcell hob hcw
    go_simp
    go_wp2
    go_ret2
    refine ⟨_, rfl, ?_, HB5.out⟩
    have h := HO5.out
    rw [← List.map_append, ← List.length_append, HYS3.out] at h
    exact own_mono h (by omega)
end Go.Proofs.YtmepaeahchiglaaGreatDoor
