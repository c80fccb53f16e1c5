/-
  layer 43: the program's Put of a project. Conditions: what can be read.
-/
import Derived.Test.YtmepaeahchiglaaGreatDoorZbbb
import Derived.Test.YtmepaeahchiglaaGreatDoorZbba
import Derived.Test.YtmepaeahchiglaaGreatDoorZbPjS
import Derived.Test.YtmepaeahchiglaaGreatDoorZbaw
namespace Go.Proofs.YtmepaeahchiglaaGreatDoor
open Go.RowKit Go.Lib

set_option linter.unusedSimpArgs false in
set_option maxRecDepth 20000 in
theorem four_any (n : Nat) (hn : n < 4294967296) (w : World) : Calls Tryz.prog 37 #[.int .u32 (n : Int)] w (GivesB w (fourB n)) := by
  go_enter Tryz.func37, Tryz.ntmps37
  go_wp2
  go_ret
  refine ⟨_, rfl, ?_, (Below.refl w.heap.size w).alloc (Nat.le_refl _) _⟩
  have e : (n : Int) / 16777216 = ((n / 16777216 % 256 : Nat) : Int) := by omega
  rw [e]
  exact World.ownsRow_lit (base := w.heap.size) (e := 5) (size := 1) w ((fourB n).map bv).toArray 4 (Nat.le_refl _) (by unfold maxLen; omega) rfl
/-! The bytes of a project are bytes. -/
theorem app_lt {a b : List Nat} (h1 : ∀ c ∈ a, c < 256) (h2 : ∀ c ∈ b, c < 256) : ∀ c ∈ a ++ b, c < 256 := fun c hc => (List.mem_append.1 hc).elim (h1 c) (h2 c)
theorem flat_lt {α : Type} {f : α → List Nat} {l : List α} (h : ∀ x, ∀ c ∈ f x, c < 256) : ∀ c ∈ l.flatMap f, c < 256 := fun c hc => by
  obtain ⟨x, _, hx⟩ := List.mem_flatMap.1 hc
  exact h x c hx
theorem allB_lt {α : Type} {f : α → List Nat} (h : ∀ x, ∀ c ∈ f x, c < 256) (l : List α) : ∀ c ∈ allB f l, c < 256 := app_lt (numB_lt _) (flat_lt h)
theorem formB_lt (f : Fm) : ∀ c ∈ formB f, c < 256 := by
  unfold formB
  refine app_lt (numB_lt _) ?_
  split
  · exact wordB_lt _
  · intro c hc; cases hc
theorem projB_lt (p : Pj) : ∀ c ∈ projB p, c < 256 := by
  unfold projB
  refine app_lt (allB_lt textB_lt _) (app_lt (allB_lt (fun x => app_lt (textB_lt _) (sndB_lt _)) _) (app_lt (allB_lt (fun x => app_lt (textB_lt _) (app_lt (numB_lt _) (sndB_lt _))) _) (app_lt (allB_lt (fun x => app_lt (numB_lt _) (textB_lt _)) _) (app_lt (allB_lt lawB_lt _) (app_lt (flat_lt fun x => allB_lt (fun k => numB_lt _) x) (app_lt (allB_lt formB_lt _) (allB_lt (fun x => app_lt (textB_lt _) (allB_lt formB_lt _)) _)))))))
def magB : List Nat := [97, 98, 108, 49]
def bodyB (p : Pj) : List Nat := magB ++ projB p
theorem bodyB_lt (p : Pj) : ∀ c ∈ bodyB p, c < 256 := app_lt (by unfold magB; decide) (projB_lt p)
def putP (p : Pj) : List Nat := if projE p = 0 then bodyB p ++ fourB (sumB (bodyB p)) else []
theorem sumB_lt {b : List Nat} (h : ∀ c ∈ b, c < 256) : sumB b < 4294967296 := by
  unfold sumB
  exact Nat.xor_lt_two_pow (n := 32) (by decide) (crcAll_lt b (by decide) h)
theorem u8_nat {l : List Nat} (h : ∀ c ∈ l, c < 256) : (l.map UInt8.ofNat).map UInt8.toNat = l := by
  induction l with
  | nil => rfl
  | cons c l ih =>
    rw [List.map_cons, List.map_cons, ih fun d hd => h d (List.mem_cons_of_mem _ hd)]
    have := h c (List.mem_cons_self ..)
    congr 1
    simp; omega
theorem readB_of {w : World} {B n : Nat} {A : Option Addr} {l : List Nat} (h : Reads w B 1 A n (l.map bv)) (hl : ∀ c ∈ l, c < 256) : ReadB w B A n (l.map UInt8.ofNat) := by
  have e : (l.map UInt8.ofNat).map (fun u : UInt8 => Value.int .u8 (u.toNat : Int)) = l.map bv := by
    rw [List.map_map]
    refine List.map_congr_left fun c hc => ?_
    have := hl c hc
    show Value.int .u8 _ = Value.int .u8 _
    simp
    omega
  unfold ReadB
  rw [e]
  exact h
theorem append_types {P : Program} (w : World) {t u ty e e' : TypeId} {i : TypeInfo} (hi : P.info? e = some i) (ht : P.underlying t = some (.slice e)) (hu : P.underlying u = some (.slice e')) (x y : Value) : (Builtin.append_ #[t, u] ty #[x, y]).run P w = (Builtin.append_ #[t, t] ty #[x, y]).run P w := by
  cases x <;> simp [Builtin.append_, run_underlying ht, run_underlying hu, sizeOf, typeInfo, hi]
/-- An append whose two arguments have types of two names. -/
theorem step_append_two {P : Program} {w : World} {ops : Array Oper} {o : Oper} {a : Act} {K : Act → World → Prop} {Q : Exit → Act → World → Prop} {E : Prop} (hgd : o.guard = none) (s x : Operand) (t u : TypeId)
    (ho : o.op = .call { callee := .builtin .append, args := #[s, x], argTypes := #[t, u] })
    (base : Nat) (e : TypeId) (i : TypeInfo) (z : Value) (size bytes : Nat) (ht : P.underlying t = some (.slice e)) (hu : P.underlying u = some (.slice e)) (hi : P.info? e = some i) (hz : i.zero = some z)
    (hsize : i.size = size) (hby : i.bytes = bytes) (hzs : z.cells.size = size) (hsz : 0 < size)
    (v : Value) (n : Nat) (xs : List Value) (hs : a.eval s = v) (hown : w.ownsRow base e size v n xs)
    (B : Nat) (A : Option Addr) (m c : Nat) (news : List Value) (hx : a.eval x = .slice A m c) (hr : Reads w B size A m news) (h1 : ∀ u ∈ news, u.oneCell' = true)
    (h63 : n + m ≤ maxLen) (hbytes : (n + m) * bytes ≤ 140737488355328) (hbase : base ≤ w.heap.size)
    (h : ∀ v' w', w'.ownsRow base e size v' (n + m) (xs ++ news) → w.grownBy w' v.ownBlock → (v'.ownBlock = v.ownBlock ∨ v'.ownBlock = some w.heap.size) → K (a.put o.dst v') w') :
    if Region.wanted o (yielded ops a.tmps) = true then Oper.wp P o a w K Q else E := by
  have hw : Region.wanted o (yielded ops a.tmps) = true := by simp [Region.wanted, hgd]
  rw [if_pos hw]
  obtain ⟨v', w', hrun, h2, h3, h4⟩ := run_append_any (P := P) w base t o.type e i z size bytes ht hi hz hsize hby hzs hsz v n xs hown B A m c news hr h1 h63 hbytes hbase
  rw [← append_types w hi ht hu] at hrun
  unfold Oper.wp execOp
  simp only [ho, resolve, invoke, builtin, Sem.run_bind, Sem.run_pure, Result.andThen_ok, List.map_toArray, List.map_cons, List.map_nil, hs, hx, hrun]
  exact h v' w' h2 h3 h4
theorem bodyB_len {p : Pj} (h : PjOk p) : (bodyB p).length ≤ 3000000000 := by
  obtain ⟨l1, l2, l3, l4, l5, l6, l7, l8⟩ := h.lens
  have hf := flatB_mem (put := allB intB) (m := 6000) (l := p.on) l6
  have := h.n6
  unfold bodyB magB projB
  simp only [List.length_append, List.length_cons, List.length_nil]
  omega
theorem feats_few {p : Pj} (h : projE p = 0) : p.feats.length < 128 := by
  unfold projE at h
  by_cases h1 : toolsE p = 0
  case neg => rw [if_neg h1] at h; exact absurd h h1
  unfold toolsE at h1
  by_cases h2 : newE p.feats = 0
  case neg => rw [if_neg h2] at h1; exact absurd h1 h2
  have := (newE_small h2).1
  omega
set_option linter.unusedSimpArgs false in
set_option maxRecDepth 20000 in
set_option maxHeartbeats 4000000 in
theorem put_any (w : World) (B : Nat) (p : Pj) (cs : List Value) (hp : ProjC w B p cs) (hB : B ≤ w.heap.size) (hr : PjRd p) (h32 : ∀ l ∈ p.laws, ∀ x ∈ l.outs, is32 x.clear ∧ ok32 x.set ∧ is32 x.take) :
    Calls Tryz.prog 10 #[.agg cs.toArray] w (GivesBE w (putP p) (projE p)) := by
  obtain ⟨i0, hi, hz0, hz1, hz2⟩ := info_parts (show (Tryz.prog.info? 5).map (fun i => (i.zero, i.size, i.bytes)) = some (some (.int .u8 0), 1, 1) by kernel_rfl)
  obtain ⟨v1, v2, v3, v4, v5, v6, v7, v8, rfl, q1, q2, q3, q4, q5, q6, q7, q8⟩ := hp
  have hp : ProjC w B p [v1, v2, v3, v4, v5, v6, v7, v8] := ⟨_, _, _, _, _, _, _, _, rfl, q1, q2, q3, q4, q5, q6, q7, q8⟩
  obtain ⟨A1, m1, c1, rfl, -⟩ := q1.form
  obtain ⟨A2, m2, c2, rfl, -⟩ := q2.form
  obtain ⟨A3, m3, c3, rfl, -⟩ := q3.form
  obtain ⟨A4, m4, c4, rfl, -⟩ := q4.form
  obtain ⟨A5, m5, c5, rfl, -⟩ := q5.form
  obtain ⟨A6, m6, c6, rfl, -⟩ := q6.form
  obtain ⟨A7, m7, c7, rfl, -⟩ := q7.form
  obtain ⟨A8, m8, c8, rfl, -⟩ := q8.form
  obtain ⟨o, ho⟩ : ∃ o, Obj.cells #[.slice A1 m1 c1, .slice A2 m2 c2, .slice A3 m3 c3, .slice A4 m4 c4, .slice A5 m5 c5, .slice A6 m6 c6, .slice A7 m7 c7, .slice A8 m8 c8] 33 = o := ⟨_, rfl⟩
  have hb0 := (Below.refl w.heap.size w).alloc (Nat.le_refl _) o
  have hk0 := Blk.new w 33 #[.slice A1 m1 c1, .slice A2 m2 c2, .slice A3 m3 c3, .slice A4 m4 c4, .slice A5 m5 c5, .slice A6 m6 c6, .slice A7 m7 c7, .slice A8 m8 c8]
  rw [ho] at hk0
  have hle1 : w.heap.size ≤ (w.alloc o).heap.size := by rw [World.size_alloc]; omega
  have hlt1 : w.heap.size < (w.alloc o).heap.size := by rw [World.size_alloc]; omega
  have hkp := fun (W : World) (hW : Below w.heap.size w W) => fun (q : Addr) (hq : q.block < B) => hW.cell (p := q) (Nat.lt_of_lt_of_le hq hB)
  have hck := check_any (w.alloc o) B p _ (ProjC.keep (hkp _ hb0) hp) (Nat.le_trans hB hle1) hr
  have hwr := fun (W : World) (base g : Nat) (hW : Below w.heap.size w W) (hw : WrS W base g magB) (hBb : B ≤ base) (hok : PjOk p) (h24 : p.feats.length < 128) => projectS_any W base g B p _ magB hw (ProjC.keep (hkp _ hW) hp) hBb hok h24 (by unfold magB; decide)
  have hpo := fun h => And.intro (PjOk.of (p := p) h hr h32) (feats_few h)
  have g0 := hk0.cell 0
  have g1 := hk0.cell 1
  have g2 := hk0.cell 2
  have g3 := hk0.cell 3
  have g4 := hk0.cell 4
  have g5 := hk0.cell 5
  have g6 := hk0.cell 6
  have g7 := hk0.cell 7
  simp only [List.getElem?_toArray, List.getElem?_cons_zero, List.getElem?_cons_succ] at g0 g1 g2 g3 g4 g5 g6 g7
  have HO := Lib.hid ho; have HB0 := Lib.hid hb0; have HK0 := Lib.hid hk0; have HWR := Lib.hid hwr; have HBW := Lib.hid hB
  clear q1 q2 q3 q4 q5 q6 q7 q8 ho hb0 hk0 hwr hkp hp hr h32 hB
  obtain ⟨ys, hys⟩ : ∃ ys, putP p = ys := ⟨_, rfl⟩
  rw [hys]
  unfold putP at hys
  obtain ⟨x, hx⟩ : ∃ x, projE p = x := ⟨_, rfl⟩
  rw [hx] at hck hys hpo ⊢
  have HCK := Lib.hid hck; have HPO := Lib.hid hpo
  have HYS := Lib.hid hys
  clear hys hx hck hpo
  unfold GivesBE
  go_enter Tryz.func10, Tryz.ntmps10
  go_wp2_with (rw [HO.out])
  refine HCK.out.mono ?_
  rintro e w1 ⟨rfl, hb1⟩
  have HB1 := Lib.hid (HB0.out.trans (hb1.mono hle1)); have HK1 := Lib.hid (HK0.out.below hb1 hlt1)
  have hs1 : w.heap.size < w1.heap.size := Nat.lt_of_lt_of_le hlt1 hb1.size
  clear hb1 g0 g1 g2 g3 g4 g5 g6 g7 HCK
  by_cases hz : x = 0
  case neg =>
    have hzI : (x != (0 : Int)) = true := by rw [bne_iff_ne]; exact hz
    have hys := HYS.out
    rw [if_neg hz] at hys
    subst hys
    clear hz
    go_wp2
    go_ret2
    exact ⟨_, rfl, World.ownsRow_nil _ _ _ _, HB1.out⟩
  have HOK := Lib.hid (HPO.out hz)
  have hys := HYS.out
  rw [if_pos hz] at hys
  subst hz
  have HYS := Lib.hid hys
  clear hys
  have hwr : WrS ((w1.alloc (.cells #[.int .u8 97, .int .u8 98, .int .u8 108, .int .u8 49] 5 (4, 5))).alloc (.cells #[.slice (some ⟨w1.heap.size, 0, none⟩) 4 4] 92)) w1.heap.size (w1.heap.size + 1) magB := by
    refine ⟨w1.heap.size, (4, 5), ?_, Nat.le_succ _, Nat.le_refl _, ?_⟩
    · have := Blk.new (w1.alloc (.cells #[.int .u8 97, .int .u8 98, .int .u8 108, .int .u8 49] 5 (4, 5))) 92 #[.slice (some ⟨w1.heap.size, 0, none⟩) 4 4]
      rw [World.size_alloc] at this
      exact this
    · exact (Below.heap_alloc _ _ _ (by rw [World.size_alloc]; omega)).trans (heap_alloc_new w1 _)
  have hb2 := (HB1.out.alloc HB1.out.size (.cells #[.int .u8 97, .int .u8 98, .int .u8 108, .int .u8 49] 5 (4, 5))).alloc (by rw [World.size_alloc]; omega) (.cells #[.slice (some ⟨w1.heap.size, 0, none⟩) 4 4] 92)
  obtain ⟨w2, hw2⟩ : ∃ W, (w1.alloc (.cells #[.int .u8 97, .int .u8 98, .int .u8 108, .int .u8 49] 5 (4, 5))).alloc (.cells #[.slice (some ⟨w1.heap.size, 0, none⟩) 4 4] 92) = W := ⟨_, rfl⟩
  have hk2 := (HK1.out.alloc (.cells #[.int .u8 97, .int .u8 98, .int .u8 108, .int .u8 49] 5 (4, 5))).alloc (.cells #[.slice (some ⟨w1.heap.size, 0, none⟩) 4 4] 92)
  rw [hw2] at hwr hb2 hk2
  have hcall := HWR.out w2 _ _ hb2 hwr (by have := HBW.out; omega) HOK.out.1 HOK.out.2
  have HCALL := Lib.hid hcall; have HW2 := Lib.hid hw2; have HB2 := Lib.hid hb2; have HWR2 := Lib.hid hwr
  have g0 := HK1.out.cell 0
  have f0 := hk2.cell 0
  have g1 := HK1.out.cell 1
  have f1 := hk2.cell 1
  have g2 := HK1.out.cell 2
  have f2 := hk2.cell 2
  have g3 := HK1.out.cell 3
  have f3 := hk2.cell 3
  have g4 := HK1.out.cell 4
  have f4 := hk2.cell 4
  have g5 := HK1.out.cell 5
  have f5 := hk2.cell 5
  have g6 := HK1.out.cell 6
  have f6 := hk2.cell 6
  have g7 := HK1.out.cell 7
  have f7 := hk2.cell 7
  simp only [List.getElem?_toArray, List.getElem?_cons_zero, List.getElem?_cons_succ] at g0 f0 g1 f1 g2 f2 g3 f3 g4 f4 g5 f5 g6 f6 g7 f7
  have hzI : ((0 : Int) != 0) = false := rfl
  have kc := fun (W : World) (C : Array Value) (n c : Nat) => Lib.run_convert_bytes_const (P := Tryz.prog) W 92 5 C n c Tryz.underlying92 Tryz.underlying5
  clear hwr hb2 hcall hw2 hk2 HWR HPO
  go_wp2_with (rw [HW2.out])
  refine HCALL.out.mono ?_
  rintro e w3 ⟨rfl, hw3, hst⟩
  have HB3 := Lib.hid (HB2.out.trans ((hst.belowS HWR2.out).mono (by omega)))
  clear hst g0 f0 g1 f1 g2 f2 g3 f3 g4 f4 g5 f5 g6 f6 g7 f7 HCALL kc
  have hpj : magB ++ projB p = bodyB p := rfl
  rw [hpj] at hw3
  obtain ⟨v, k1, k2, k3⟩ := hw3
  have hzl := bodyB_len HOK.out.1
  have hzb := bodyB_lt p
  have hys := HYS.out
  rw [if_pos trivial] at hys
  obtain ⟨zs, hzs⟩ : ∃ zs, bodyB p = zs := ⟨_, rfl⟩
  rw [hzs] at k3 hzl hzb hys
  obtain ⟨A, c, rfl, hn1, hn2⟩ := ownsRow_form k3
  have hsum := fun (W : World) (h : W.ownsRow w1.heap.size 5 1 (.slice A zs.length c) zs.length (zs.map bv)) => sum_any A zs.length c (zs.map UInt8.ofNat) W (readB_of (Reads.of_own h) hzb) (by unfold maxLen; omega)
  rw [u8_nat hzb] at hsum
  have hq := sumB_lt hzb
  obtain ⟨q, hqq⟩ : ∃ q, sumB zs = q := ⟨_, rfl⟩
  rw [hqq] at hsum hq hys
  have hfour := four_any q hq
  have hfl : (fourB q).length = 4 := rfl
  unfold GivesB at hfour
  generalize fourB q = f4 at *
  have gw := k1.cell 0
  have hne : (Value.slice A zs.length c).ownBlock ≠ some (w1.heap.size + 1) := own_blk_ne k3 k1 (by decide)
  simp only [List.getElem?_toArray, List.getElem?_cons_zero, List.getElem?_cons_succ] at gw
  have HSUM := Lib.hid hsum; have HFOUR := Lib.hid hfour; have HK1W := Lib.hid k1; have HK3 := Lib.hid k3; have HK3d : Hid (w3.drew.ownsRow w1.heap.size 5 1 (.slice A zs.length c) zs.length (zs.map bv)) := Lib.hid k3; have HYS3 := Lib.hid hys; have HFL := Lib.hid hfl
  have hlt3 := k1.lt
  clear hsum hfour k1 k3 hys hzb hqq hpj hzs hfl hq HYS
  go_wp2
  go_region_law (first
    | (refine step_append_two rfl (.tmp 15) (.tmp 18) 92 36 rfl w1.heap.size 5 i0 (.int .u8 0) 1 1 Tryz.underlying92 Tryz.underlying36 hi hz0 hz1 hz2 rfl (by decide) _ _ _ rfl (own_below' HK3d.out hbb) _ _ _ _ (f4.map bv) rfl (Reads.of_own hob) (bv_one _) (by unfold maxLen; rw [HFL.out]; omega) (by rw [HFL.out]; omega) (by omega) ?_; intro v' w5 hown' hgrow hx'; clear hx')
    | (go_simp; go_at_call 19; (with_reducible refine (HSUM.out _ HK3d.out).mono ?_); rintro e ws ⟨rfl, rfl⟩)
    | (go_simp; go_at_call 37; (with_reducible refine (HFOUR.out _).mono ?_); rintro e wb ⟨vb, rfl, hob, hbb⟩; replace hob := own_mono hob (show w1.heap.size ≤ _ by first | omega | (simp; done) | (simp; omega)); have hsz := hbb.size; (try simp at hsz); obtain ⟨Ab, cb, rfl, _, _⟩ := ownsRow_form hob; obtain ⟨hcell, _⟩ := bcell hbb; have hcw : wb.cell? ⟨w1.heap.size + 1, 0, none⟩ = some (.slice A zs.length c) := (hcell _ _ hlt3).trans gw))
  all_goals
    have hb5 : Below w.heap.size w w5 := ((HB3.out.drew).trans (hbb.mono (HB3.out.size))).grown hgrow (by have := HB3.out.size; omega) (fun g hg => by have := (HK3.out.lt g hg).1; omega)
    have HO5 := Lib.hid hown'; have HB5 := Lib.hid hb5
    clear hown' hb5 hgrow hbb hcell hob hcw
    go_simp
    go_wp2
    go_ret2
    refine ⟨_, rfl, ?_, HB5.out⟩
    have h := HO5.out
    rw [← List.map_append, ← List.length_append, HYS3.out] at h
    exact own_mono h (by omega)
end Go.Proofs.YtmepaeahchiglaaGreatDoor
namespace Go.Proofs.YtmepaeahchiglaaGreatDoor
open Go.RowKit Go.Lib

/-- What is left is an end of what there was. -/
def Suf {α : Type} (get : Rdr α) : Prop := ∀ b x r, get b = some (x, r) → ∃ a, b = a ++ r
theorem suf_ret {α : Type} (x : α) : Suf (fun r => some (x, r)) := fun b y r h => by
  injection h with h
  obtain ⟨_, rfl⟩ := Prod.mk.inj h
  exact ⟨[], rfl⟩
theorem suf_then {α β : Type} {g : Rdr α} {f : α → Rdr β} (h1 : Suf g) (h2 : ∀ x, Suf (f x)) : Suf (thenR g f) := fun b y r h => by
  obtain ⟨x, s, e1, e2⟩ := thenR_out h
  obtain ⟨a, rfl⟩ := h1 _ _ _ e1
  obtain ⟨a', rfl⟩ := h2 _ _ _ _ e2
  exact ⟨a ++ a', by rw [List.append_assoc]⟩
theorem suf_readK : ∀ f k acc, Suf (readK f k acc)
  | 0, k, acc => fun b x r h => by cases h
  | f + 1, k, acc => fun b x r h => by
    cases b with
    | nil => cases h
    | cons b l =>
      have h' : (if 128 ≤ b then readK f (k + 1) (acc + 128 ^ k * (b % 128)) l else if (b = 0 ∧ 0 < k) ∨ 4294967296 ≤ acc + 128 ^ k * b then none else some (acc + 128 ^ k * b, l)) = some (x, r) := h
      split at h'
      · obtain ⟨a, rfl⟩ := suf_readK f _ _ _ _ _ h'
        exact ⟨b :: a, rfl⟩
      · split at h'
        · cases h'
        · injection h' with h'
          obtain ⟨_, rfl⟩ := Prod.mk.inj h'
          exact ⟨[b], rfl⟩
theorem suf_num : Suf readN := suf_readK _ _ _
theorem suf_count : Suf countR := suf_then suf_num fun n b x r h => by
  have h' : (if n ≤ b.length then some (n, b) else none) = some (x, r) := h
  split at h'
  · injection h' with h'
    obtain ⟨_, rfl⟩ := Prod.mk.inj h'
    exact ⟨[], rfl⟩
  · cases h'
theorem suf_snd : Suf sndR := suf_then suf_num fun _ => suf_then suf_num fun _ => suf_ret _
theorem suf_flag : Suf flagR := suf_then suf_num fun n b x r h => by
  have h' : (if 1 < n then none else some (decide (n = 1), b)) = some (x, r) := h
  split at h'
  · cases h'
  · injection h' with h'
    obtain ⟨_, rfl⟩ := Prod.mk.inj h'
    exact ⟨[], rfl⟩
theorem suf_many {α : Type} {get : Rdr α} (h : Suf get) : ∀ n, Suf (manyR get n)
  | 0 => suf_ret _
  | n + 1 => suf_then h fun _ => suf_then (suf_many h n) fun _ => suf_ret _
theorem suf_some {α : Type} {get : Rdr α} (h : Suf get) : Suf (someR get) := suf_then suf_count fun n => suf_many h n
theorem suf_manyS {get : Nat → Rdr (Pt × Nat)} (h : ∀ l, Suf (get l)) : ∀ n l, Suf (manyS get n l)
  | 0, _ => suf_ret _
  | n + 1, l => suf_then (h l) fun _ => suf_then (suf_manyS h n _) fun _ => suf_ret _
theorem suf_node {get : Nat → Rdr (Pt × Nat)} (h : ∀ l, Suf (get l)) (left : Nat) : Suf (nodeR get left) := suf_then suf_num fun k => by
  by_cases k1 : k = 1
  · rw [if_pos k1]; exact suf_then suf_snd fun _ => suf_then suf_flag fun _ => suf_ret _
  · rw [if_neg k1]
    by_cases k3 : k = 3 ∨ k = 4
    · rw [if_pos k3]; exact suf_then suf_count fun n => suf_then (suf_manyS h n left) fun _ => suf_ret _
    · rw [if_neg k3]
      by_cases k5 : k = 5
      · rw [if_pos k5]; exact suf_then suf_num fun _ => suf_then suf_num fun _ => suf_then (suf_manyS h 1 left) fun _ => suf_ret _
      · rw [if_neg k5]; exact suf_ret _
theorem suf_pat : ∀ f left, Suf (patR f left)
  | 0, _ => fun b x r h => by cases h
  | f + 1, 0 => fun b x r h => by rw [patR_zero] at h; cases h
  | f + 1, left + 1 => fun b x r h => by rw [patR_succ] at h; exact suf_node (suf_pat f) left b x r h
theorem suf_text : Suf textR := suf_then suf_count fun n b x r h => by
  injection h with h
  obtain ⟨_, rfl⟩ := Prod.mk.inj h
  exact ⟨b.take n, (List.take_append_drop n b).symm⟩
theorem suf_out : Suf outR := suf_then suf_num fun _ => suf_then suf_num fun _ => suf_then suf_snd fun _ => suf_then suf_num fun _ => suf_then suf_num fun _ => suf_ret _
theorem suf_side : Suf sideR := suf_then (suf_pat _ _) fun _ => suf_ret _
theorem suf_law : Suf lawR := suf_then suf_text fun _ => suf_then suf_side fun _ => suf_then suf_side fun _ => suf_then (suf_some suf_snd) fun _ => suf_then (suf_some suf_out) fun _ => suf_then suf_num fun _ => suf_ret _
/-! What holds of what was read. -/
theorem sure_nmd : Sure nmdR fun x m => x.1.size ≤ m ∧ ok32 x.2 := fun b y r hb h => by
  obtain ⟨s, r1, e1, h⟩ := thenR_out h
  obtain ⟨x, r2, e2, h⟩ := thenR_out h
  obtain ⟨p1, p2, p3⟩ := sure_text b s r1 hb e1
  obtain ⟨q1, q2, q3⟩ := sure_snd r1 x r2 p2 e2
  obtain ⟨rfl, k2, k3⟩ := sure_ret h q2
  exact ⟨⟨p1, q1⟩, k2, by omega⟩
theorem sure_mkd : Sure mkdR fun x m => x.text.size ≤ m ∧ is32 x.clear ∧ ok32 x.set := fun b y r hb h => by
  obtain ⟨s, r1, e1, h⟩ := thenR_out h
  obtain ⟨c, r2, e2, h⟩ := thenR_out h
  obtain ⟨x, r3, e3, h⟩ := thenR_out h
  obtain ⟨p1, p2, p3⟩ := sure_text b s r1 hb e1
  obtain ⟨q1, q2, q3⟩ := sure_num r1 c r2 p2 e2
  obtain ⟨t1, t2, t3⟩ := sure_snd r2 x r3 q2 e3
  obtain ⟨rfl, k2, k3⟩ := sure_ret h t2
  exact ⟨⟨p1, q1, t1⟩, k2, by omega⟩
theorem sure_nd : Sure ndR fun x m => x.2.size ≤ m := fun b y r hb h => by
  obtain ⟨k, r1, e1, h⟩ := thenR_out h
  obtain ⟨s, r2, e2, h⟩ := thenR_out h
  obtain ⟨p1, p2, p3⟩ := sure_num b k r1 hb e1
  obtain ⟨q1, q2, q3⟩ := sure_text r1 s r2 p2 e2
  obtain ⟨rfl, k2, k3⟩ := sure_ret h q2
  exact ⟨by show s.size ≤ _; omega, k2, by omega⟩
theorem sure_int : Sure intR fun k _ => 0 ≤ k ∧ k < 4294967296 := fun b y r hb h => by
  obtain ⟨k, r1, e1, h⟩ := thenR_out h
  obtain ⟨p1, p2, p3⟩ := sure_num b k r1 hb e1
  obtain ⟨rfl, k2, k3⟩ := sure_ret h p2
  have : k < 4294967296 := p1
  exact ⟨by omega, k2, by omega⟩
theorem sure_word : Sure wordR fun l _ => ∀ s ∈ l, ok32 s := fun b y r hb h => by
  obtain ⟨⟨-, p1⟩, p2, p3⟩ := sure_some sure_snd (fun _ _ _ h _ => h) b y r hb h
  exact ⟨p1, p2, p3⟩
theorem sure_flag : Sure flagR fun _ _ => True := fun b x r hb h => by
  obtain ⟨a, rfl⟩ := suf_flag b x r h
  exact ⟨trivial, fun c hc => hb c (by simp [hc]), by simp⟩
theorem sure_form : Sure formR fun f _ => (f.has = false → f.w = []) ∧ ∀ s ∈ f.w, ok32 s := fun b y r hb h => by
  obtain ⟨fl, r1, e1, h⟩ := thenR_out h
  obtain ⟨-, p2, p3⟩ := sure_flag b fl r1 hb e1
  cases fl with
  | true =>
    simp only [if_true] at h
    obtain ⟨x, r2, e2, h⟩ := thenR_out h
    obtain ⟨q1, q2, q3⟩ := sure_word r1 x r2 p2 e2
    obtain ⟨rfl, k2, k3⟩ := sure_ret h q2
    exact ⟨⟨fun e => (by cases e), q1⟩, k2, by omega⟩
  | false =>
    simp only [Bool.false_eq_true, if_false] at h
    obtain ⟨rfl, k2, k3⟩ := sure_ret h p2
    exact ⟨⟨fun _ => rfl, fun s hs => (by cases hs)⟩, k2, by omega⟩
theorem sure_en : Sure enR fun x m => x.gloss.size ≤ m ∧ ∀ f ∈ x.forms, (f.has = false → f.w = []) ∧ ∀ s ∈ f.w, ok32 s := fun b y r hb h => by
  obtain ⟨s, r1, e1, h⟩ := thenR_out h
  obtain ⟨l, r2, e2, h⟩ := thenR_out h
  obtain ⟨p1, p2, p3⟩ := sure_text b s r1 hb e1
  obtain ⟨⟨-, q1⟩, q2, q3⟩ := sure_some sure_form (fun _ _ _ h _ => h) r1 l r2 p2 e2
  obtain ⟨rfl, k2, k3⟩ := sure_ret h q2
  exact ⟨⟨p1, q1⟩, k2, by omega⟩
theorem sure_lawnm : Sure lawR fun l m => l.name.size ≤ m := fun b y r hb h => by
  obtain ⟨a, e⟩ := suf_law b y r h
  obtain ⟨s, r1, e1, h⟩ := thenR_out h
  obtain ⟨x1, r2, -, h⟩ := thenR_out h
  obtain ⟨x2, r3, -, h⟩ := thenR_out h
  obtain ⟨x3, r4, -, h⟩ := thenR_out h
  obtain ⟨x4, r5, -, h⟩ := thenR_out h
  obtain ⟨x5, r6, -, h⟩ := thenR_out h
  obtain ⟨p1, p2, p3⟩ := sure_text b s r1 hb e1
  injection h with h
  obtain ⟨rfl, -⟩ := Prod.mk.inj h
  exact ⟨p1, fun c hc => hb c (by rw [e]; simp [hc]), by rw [e]; simp⟩
/-- What holds of a project that was read. -/
structure PjSz (p : Pj) (m : Nat) : Prop where
  o1 : ∀ s ∈ p.feats, s.size ≤ m
  o2 : ∀ x ∈ p.sounds, x.1.size ≤ m ∧ ok32 x.2
  o3 : ∀ x ∈ p.marks, x.text.size ≤ m ∧ is32 x.clear ∧ ok32 x.set
  o4 : ∀ x ∈ p.tree, x.2.size ≤ m
  o5 : ∀ l ∈ p.laws, l.name.size ≤ m
  o6 : ∀ l ∈ p.on, l.length ≤ m ∧ ∀ k ∈ l, 0 ≤ k ∧ k < 4294967296
  o7 : ∀ f ∈ p.protos, (f.has = false → f.w = []) ∧ ∀ s ∈ f.w, ok32 s
  o8 : ∀ x ∈ p.entries, x.gloss.size ≤ m ∧ ∀ f ∈ x.forms, (f.has = false → f.w = []) ∧ ∀ s ∈ f.w, ok32 s
theorem sure_hist : Sure histR fun h m => (∀ x ∈ h.tree, x.2.size ≤ m) ∧ (∀ l ∈ h.laws, l.name.size ≤ m) ∧ h.on.length = h.tree.length ∧ ∀ l ∈ h.on, l.length ≤ m ∧ ∀ k ∈ l, 0 ≤ k ∧ k < 4294967296 := fun b y r hb h => by
  obtain ⟨t, r1, e1, h⟩ := thenR_out h
  obtain ⟨l, r2, e2, h⟩ := thenR_out h
  obtain ⟨o, r3, e3, h⟩ := thenR_out h
  obtain ⟨⟨-, p1⟩, p2, p3⟩ := sure_some sure_nd (fun _ _ _ h1 h2 => Nat.le_trans h1 h2) b t r1 hb e1
  obtain ⟨⟨-, q1⟩, q2, q3⟩ := sure_some sure_lawnm (fun _ _ _ h1 h2 => Nat.le_trans h1 h2) r1 l r2 p2 e2
  obtain ⟨⟨t0, t1⟩, t2, t3⟩ := sure_many (sure_some sure_int (fun _ _ _ h _ => h)) (fun _ _ _ h1 h2 => ⟨Nat.le_trans h1.1 h2, h1.2⟩) t.length r2 o r3 q2 e3
  obtain ⟨rfl, k2, k3⟩ := sure_ret h t2
  exact ⟨⟨p1, fun x hx => Nat.le_trans (q1 x hx) p3, t0, fun x hx => ⟨Nat.le_trans (t1 x hx).1 (by omega), (t1 x hx).2⟩⟩, k2, by omega⟩
theorem sure_proj : Sure projR fun p m => PjSz p m ∧ p.on.length = p.tree.length := fun b y r hb h => by
  obtain ⟨f, r1, e1, h⟩ := thenR_out h
  obtain ⟨s, r2, e2, h⟩ := thenR_out h
  obtain ⟨m, r3, e3, h⟩ := thenR_out h
  obtain ⟨hh, r4, e4, h⟩ := thenR_out h
  obtain ⟨q, r5, e5, h⟩ := thenR_out h
  obtain ⟨e, r6, e6, h⟩ := thenR_out h
  obtain ⟨⟨-, a1⟩, a2, a3⟩ := sure_some sure_text (fun _ _ _ h1 h2 => Nat.le_trans h1 h2) b f r1 hb e1
  obtain ⟨⟨-, b1⟩, b2, b3⟩ := sure_some sure_nmd (fun _ _ _ h1 h2 => ⟨Nat.le_trans h1.1 h2, h1.2⟩) r1 s r2 a2 e2
  obtain ⟨⟨-, c1⟩, c2, c3⟩ := sure_some sure_mkd (fun _ _ _ h1 h2 => ⟨Nat.le_trans h1.1 h2, h1.2⟩) r2 m r3 b2 e3
  obtain ⟨⟨d1, d4, d5, d6⟩, d2, d3⟩ := sure_hist r3 hh r4 c2 e4
  obtain ⟨⟨-, f1⟩, f2, f3⟩ := sure_some sure_form (fun _ _ _ h _ => h) r4 q r5 d2 e5
  obtain ⟨⟨-, g1⟩, g2, g3⟩ := sure_some sure_en (fun _ _ _ h1 h2 => ⟨Nat.le_trans h1.1 h2, h1.2⟩) r5 e r6 f2 e6
  obtain ⟨rfl, k2, k3⟩ := sure_ret h g2
  refine ⟨⟨⟨a1, fun x hx => ⟨Nat.le_trans (b1 x hx).1 (by omega), (b1 x hx).2⟩, fun x hx => ⟨Nat.le_trans (c1 x hx).1 (by omega), (c1 x hx).2⟩, fun x hx => Nat.le_trans (d1 x hx) (by omega), fun x hx => Nat.le_trans (d4 x hx) (by omega), fun x hx => ⟨Nat.le_trans (d6 x hx).1 (by omega), (d6 x hx).2⟩, f1, fun x hx => ⟨Nat.le_trans (g1 x hx).1 (by omega), (g1 x hx).2⟩⟩, d5⟩, k2, by omega⟩
theorem PjSz.rd {p : Pj} {m : Nat} (h : PjSz p m) (hm : m ≤ 1000000000) : PjRd p :=
  ⟨fun s hs => by have := h.o1 s hs; unfold maxLen; omega, fun x hx => ⟨by have := (h.o2 x hx).1; unfold maxLen; omega, (h.o2 x hx).2⟩, fun x hx => ⟨(h.o3 x hx).2.1, (h.o3 x hx).2.2, by have := (h.o3 x hx).1; unfold maxLen; omega⟩, fun x hx => by have := h.o4 x hx; unfold maxLen; omega,
    fun l hl => by have := h.o5 l hl; unfold maxLen; omega, fun l hl => Nat.le_trans (h.o6 l hl).1 hm, fun f hf => (h.o7 f hf).2, fun x hx => ⟨by have := (h.o8 x hx).1; unfold maxLen; omega, fun f hf => ((h.o8 x hx).2 f hf).2⟩⟩
/-- A project of nothing. -/
def noP : Pj := ⟨[], [], [], [], [], [], [], []⟩
/-- What was read, or an error. -/
def afterR : Option (Pj × List Nat) → Pj × Int
  | some (p, []) => if projE p = 0 then (p, 0) else (noP, projE p)
  | _ => (noP, 10)
/-- Which project some bytes are, or which error they lead to. -/
def getP (bs : List Nat) : Pj × Int :=
  if bs.length < 8 ∨ bs.take 4 ≠ magB then (noP, 10)
  else if bs.drop (bs.length - 4) ≠ fourB (sumB (bs.take (bs.length - 4))) then (noP, 13)
  else afterR (projR ((bs.take (bs.length - 4)).drop 4))
section
variable {bs : List Nat} {n : Nat}
theorem getP_short (h : bs.length < 8) : getP bs = (noP, 10) := by unfold getP; rw [if_pos (.inl h)]
theorem getP_mag (h : bs.take 4 ≠ magB) : getP bs = (noP, 10) := by unfold getP; rw [if_pos (.inr h)]
theorem getP_sum (h1 : ¬ bs.length < 8) (h2 : bs.take 4 = magB) (h3 : bs.drop (bs.length - 4) ≠ fourB (sumB (bs.take (bs.length - 4)))) : getP bs = (noP, 13) := by
  unfold getP
  rw [if_neg (by rintro (h | h); exact h1 h; exact h h2), if_pos h3]
theorem getP_main (h1 : ¬ bs.length < 8) (h2 : bs.take 4 = magB) (h3 : bs.drop (bs.length - 4) = fourB (sumB (bs.take (bs.length - 4)))) : getP bs = afterR (projR ((bs.take (bs.length - 4)).drop 4)) := by
  unfold getP
  rw [if_neg (by rintro (h | h); exact h1 h; exact h h2), if_neg (fun h => h h3)]
end
end Go.Proofs.YtmepaeahchiglaaGreatDoor
