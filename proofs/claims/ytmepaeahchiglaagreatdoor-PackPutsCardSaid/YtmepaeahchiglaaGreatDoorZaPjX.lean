/-
  layer 43: how the reference gathers bytes; its forms. Conditions: things of the reach.
-/
import Derived.Test.YtmepaeahchiglaaGreatDoorZaPjU
import Derived.Test.YtmepaeahchiglaaGreatDoorZaaw
namespace Go.Proofs.YtmepaeahchiglaaGreatDoor
open Go.RowKit Go.Lib

/-- A list of bytes of the call's own, and the call's box. -/
structure St (w wr : World) (tb : TypeId) (cs : Array Value) (v : Value) (zs : List Nat) : Prop where
  own : wr.ownsRow w.heap.size 5 1 v zs.length (zs.map bv)
  box : Blk wr w.heap.size tb cs
  bel : Below w.heap.size w wr
theorem St.call {w wr w2 : World} {tb : TypeId} {cs : Array Value} {v : Value} {zs : List Nat} (h : St w wr tb cs v zs) (hb : Below wr.heap.size wr w2) : St w w2 tb cs v zs :=
  ⟨own_below' h.own hb, h.box.below hb h.box.lt, h.bel.trans (hb.mono h.bel.size)⟩
theorem St.append {w w2 : World} {tb : TypeId} {cs : Array Value} {v : Value} {zs : List Nat} {ops : Array Oper} {rest : List Oper} {o : Oper} {a : Act} {Q : Exit → Act → World → Prop} (hgd : o.guard = none) (s x : Operand)
    (ho : o.op = .call { callee := .builtin .append, args := #[s, x], argTypes := #[36, 36] })
    (h : St w w2 tb cs v zs) (htb : 5 ≠ tb) (hs : a.eval s = v) (B n c : Nat) (A : Option Addr) (ys : List Nat) (hx : a.eval x = .slice A n c) (ho2 : w2.ownsRow B 5 1 (.slice A n c) ys.length (ys.map bv))
    (hlen : zs.length + ys.length ≤ 140737488355328)
    (hk : ∀ v' w', St w w' tb cs v' (zs ++ ys) → wpList Tryz.prog ops Q rest (a.put o.dst v') w') : wpList Tryz.prog ops Q (o :: rest) a w2 := by
  obtain ⟨i0, hi, hz0, hz1, hz2⟩ := info_parts (show (Tryz.prog.info? 5).map (fun i => (i.zero, i.size, i.bytes)) = some (some (.int .u8 0), 1, 1) by kernel_rfl)
  obtain ⟨A', c', e, e1, e2⟩ := ownsRow_form ho2
  injection e with e3 e4 e5
  subst e3 e4 e5
  have hne := own_blk_ne h.own h.box htb
  refine wpList_append_any w2 hgd s x 36 ho w.heap.size 5 i0 (.int .u8 0) 1 1 Tryz.underlying36 hi hz0 hz1 hz2 rfl (by decide) v zs.length (zs.map bv) hs h.own w2.heap.size A ys.length c (ys.map bv) hx (Reads.of_own ho2) (bv_one _) (by unfold maxLen; omega) (by omega) h.bel.size ?_
  intro v' w' h1 h2 h3
  refine hk v' w' ⟨by rw [List.length_append, List.map_append]; exact h1, h.box.grown h2 (fun e => hne e.symm), h.bel.grown h2 h.bel.size (fun g hg => (h.own.lt g hg).1)⟩
set_option maxRecDepth 20000 in
theorem refFour_any (n : Nat) (hn : n < 4294967296) (w : World) : Calls Tryz.prog 44 #[.int .u32 (n : Int)] w (GivesB w (fourB n)) := by
  go_enter Tryz.func44, Tryz.ntmps44
  go_wp2
  go_ret
  refine ⟨_, rfl, ?_, (Below.refl w.heap.size w).alloc (Nat.le_refl _) _⟩
  have e : (n : Int) / 16777216 = ((n / 16777216 % 256 : Nat) : Int) := by omega
  rw [e]
  exact World.ownsRow_lit (base := w.heap.size) (e := 5) (size := 1) w ((fourB n).map bv).toArray 4 (Nat.le_refl _) (by unfold maxLen; omega) rfl
set_option maxRecDepth 20000 in
set_option maxHeartbeats 2000000 in
theorem refForm_any (f : Fm) (v : Value) (B : Nat) (w : World) (hv : SlC SndCC 2 w B f.w v) (hB : B ≤ w.heap.size) (hn : f.w.length ≤ 1000) (hok : ∀ s ∈ f.w, ok32 s) :
    Calls Tryz.prog 105 #[.agg #[.bool f.has, v]] w (GivesB w (formB f)) := by
  obtain ⟨A, c, rfl, ⟨h1, h2⟩, hr⟩ := hv.flat
  obtain ⟨has, ws⟩ := f
  simp only at h1 hr hn hok ⊢
  unfold GivesB formB
  cases has with
  | false =>
    go_enter Tryz.func105, Tryz.ntmps105
    go_wp2
    go_ret
    refine ⟨_, rfl, ?_, ((Below.refl w.heap.size w).alloc (Nat.le_refl _) _).alloc (by simp) _⟩
    have h := own_lit1 (w.alloc (.cells #[.bool false, .slice A ws.length c] 82)) 0
    rw [World.size_alloc] at h
    exact own_mono h (by omega)
  | true =>
    obtain ⟨ys, hys⟩ : ∃ ys, flagB true ++ (if true = true then wordB ws else []) = ys := ⟨_, rfl⟩
    rw [hys]
    have HYS := Lib.hid hys
    clear hys
    have hb0 := (Below.refl w.heap.size w).alloc (Nat.le_refl _) (.cells #[.bool true, .slice A ws.length c] 82)
    have hk0 := Blk.new w 82 #[.bool true, .slice A ws.length c]
    have ho := own_lit1 (w.alloc (.cells #[.bool true, .slice A ws.length c] 82)) 1
    rw [World.size_alloc] at ho
    have hst : St w ((w.alloc (.cells #[.bool true, .slice A ws.length c] 82)).alloc (.cells #[bv 1] 5)) 82 #[.bool true, .slice A ws.length c] (.slice (some ⟨w.heap.size + 1, 0, none⟩) 1 1) [1] :=
      ⟨own_mono ho (by omega), hk0.alloc _, hb0.alloc hb0.size _⟩
    have hw := refWordB_any A ws.length c B ws _ (hr.below (hst.bel.mono hB)) (Nat.le_trans hB hst.bel.size) (by omega) hok
    have hwl := wordB_len ws
    have HST := Lib.hid hst; have HW := Lib.hid hw
    clear hst hw ho hk0 hb0 hr hok
    go_enter Tryz.func105, Tryz.ntmps105
    go_wp2_with fail
    refine HW.out.mono ?_
    rintro e w2 ⟨v2, rfl, ho2, hb2⟩
    obtain ⟨A2, c2, rfl, _, _⟩ := ownsRow_form ho2
    have HST2 := Lib.hid (HST.out.call hb2); have HO2 := Lib.hid ho2
    clear ho2 hb2
    go_wp2_with (at_builtin; refine St.append rfl _ _ rfl HST2.out (by decide) rfl _ _ _ _ _ rfl HO2.out (by simp only [List.length_cons, List.length_nil]; omega) ?_; intro v3 w3 hst3; have HST3 := Lib.hid hst3; clear hst3)
    go_ret
    exact ⟨_, rfl, by rw [← HYS.out]; exact HST3.out.own, HST3.out.bel⟩
theorem formB_len1 {f : Fm} (h : f.w.length ≤ 1000) : (formB f).length ≤ 10010 := by
  unfold formB flagB
  have h1 := numB_len (if f.has then 1 else 0)
  have h2 := wordB_len f.w
  rw [List.length_append]
  have h3 : (if f.has = true then wordB f.w else []).length ≤ 10005 := by
    split
    · omega
    · exact Nat.zero_le _
  omega
theorem allB_next {α : Type} (put : α → List Nat) (l : List α) (zs : List Nat) (k : Nat) (hk : k < l.length) : zs ++ (l.take (k + 1)).flatMap put = (zs ++ (l.take k).flatMap put) ++ put l[k] := by rw [take_flat put l k hk, List.append_assoc]
theorem part_len {α : Type} {put : α → List Nat} {m : Nat} {l : List α} (h : ∀ x ∈ l, (put x).length ≤ m) (k : Nat) : ((l.take k).flatMap put).length ≤ m * l.length := by
  have h1 := flatB_mem (put := put) (m := m) (l := l.take k) fun x hx => h x (List.mem_of_mem_take hx)
  have h2 : m * (l.take k).length ≤ m * l.length := Nat.mul_le_mul_left _ (by rw [List.length_take]; exact Nat.min_le_right _ _)
  omega
set_option maxRecDepth 20000 in
set_option maxHeartbeats 4000000 in
theorem refForms_any (v : Value) (B : Nat) (l : List Fm) (w : World) (hs : SlC FormC 2 w B l v) (hB : B ≤ w.heap.size) (hn : l.length ≤ 1000) (hok : ∀ f ∈ l, f.w.length ≤ 1000 ∧ ∀ s ∈ f.w, ok32 s) :
    Calls Tryz.prog 41 #[v] w (GivesB w (allB formB l)) := by
  obtain ⟨i0, hi, hz0, hz1, hz2⟩ := info_parts (show (Tryz.prog.info? 5).map (fun i => (i.zero, i.size, i.bytes)) = some (some (.int .u8 0), 1, 1) by kernel_rfl)
  obtain ⟨A, n, c, rfl, -⟩ := hs.form
  obtain ⟨hnl, hn1, hn2⟩ := hs.len
  unfold maxLen at hn2
  have hcn := refCount_any n w (by omega)
  have hl := numB_len n
  have hpl := part_len (put := formB) (m := 10010) (l := l) (fun x hx => formB_len1 (hok x hx).1)
  obtain ⟨ys, hys⟩ : ∃ ys, allB formB l = ys := ⟨_, rfl⟩
  rw [hys]
  have hys2 : numB n ++ l.flatMap formB = ys := by rw [← hys, hnl]; rfl
  have HS := Lib.hid hs; have HCN := Lib.hid hcn; have HNL := Lib.hid hnl; have HOK := Lib.hid hok; have HPL := Lib.hid hpl; have HYS := Lib.hid hys2
  clear hs hcn hnl hok hpl hys hys2
  go_enter Tryz.func41, Tryz.ntmps41
  go_wp2_with fail
  refine HCN.out.mono ?_
  rintro e w1 ⟨v1, rfl, ho1, hb1⟩
  have HO1 := Lib.hid ho1; have HB1 := Lib.hid hb1
  clear ho1 hb1
  go_wp2
  go_loopw [3, 4] (fun v i wr => ∃ k : Nat, k ≤ n ∧ i = .int .i64 k ∧ wr.ownsRow w.heap.size 5 1 v (numB n ++ (l.take k).flatMap formB).length ((numB n ++ (l.take k).flatMap formB).map bv) ∧ Below w.heap.size w wr) (fun _ i _ => n - (RowKit.intOf i).toNat)
  case atStart => exact ⟨0, by omega, rfl, by simpa using HO1.out, HB1.out⟩
  case round =>
    obtain ⟨k, hk, rfl, hown, hb⟩ := hrel
    have HO := Lib.hid hown; have HB := Lib.hid hb
    have hlen : (numB n ++ (l.take k).flatMap formB).length ≤ 100000000 := by
      have h1 := HPL.out k
      have h2 := HNL.out
      rw [List.length_append]
      omega
    clear hown hb
    by_cases hlt : k < n
    · have hkl : k < l.length := by have := HNL.out; omega
      have hkI : (k : Int) < (n : Int) := by omega
      have hk0 : (0 : Int) ≤ (k : Int) := by omega
      have hkeep : ∀ p : Addr, p.block < B → wr.cell? p = w.cell? p := fun p hp => HB.out.cell (Nat.lt_of_lt_of_le hp hB)
      obtain ⟨ad, cs, rfl, had, hP, hcc⟩ := slC_cells form_len (SlC.plain hkeep HS.out (fun _ _ h => FormC.keep hkeep h)) hkl
      obtain ⟨vx, rfl, hvx⟩ := hP
      have hts := allB_next formB l (numB n) k hkl
      have hokx := HOK.out _ (List.getElem_mem hkl)
      have hfl := formB_len1 hokx.1
      have hcs := refForm_any _ _ B wr hvx (Nat.le_trans hB HB.out.size) hokx.1 hokx.2
      obtain ⟨Ax, nx, cx, rfl, -⟩ := hvx.form
      have e0 := hcc 0 _ rfl
      have e1 := hcc 1 _ rfl
      rw [Nat.add_zero] at e0
      rw [add_next ad (k * 2) 0] at e1
      generalize formB l[k] = ys2 at *
      generalize l[k] = x at *
      generalize numB n ++ (l.take k).flatMap formB = zs at *
      obtain ⟨has, ws⟩ := x
      simp only [] at *
      have HTS := Lib.hid hts; have HCS := Lib.hid hcs
      clear hts hcs hvx hokx hcc hkeep
      go_wp2_with fail
      refine HCS.out.mono ?_
      rintro e w2 ⟨v2, rfl, ho2, hb2⟩
      obtain ⟨A2, c2, rfl, _, _⟩ := ownsRow_form ho2
      have hz2' := own_below' HO.out hb2
      have hb2' := HB.out.trans (hb2.mono HB.out.size)
      have HO2 := Lib.hid ho2; have HZ2 := Lib.hid hz2'; have HB2 := Lib.hid hb2'
      clear ho2 hz2' hb2 hb2'
      go_wp2_with (at_builtin; refine wpList_append_any _ rfl _ _ 36 rfl w.heap.size 5 i0 (.int .u8 0) 1 1 Tryz.underlying36 hi hz0 hz1 hz2 rfl (by decide) _ _ _ rfl HZ2.out _ _ _ _ (ys2.map bv) rfl (Reads.of_own HO2.out) (bv_one _) (by unfold maxLen; omega) (by omega) (by have := HB2.out.size; omega) ?_; intro v' w3 hown' hgrow hx'; have hb3 := HB2.out.grown hgrow HB2.out.size (fun g hg => (HZ2.out.lt g hg).1); clear hgrow hx')
      go_roundw
      case rel => exact ⟨k + 1, by omega, by go_num, by rw [HTS.out, List.length_append, List.map_append]; exact hown', hb3⟩
      case measure => simp [RowKit.intOf]; omega
    · obtain rfl : k = n := by omega
      have ho := HO.out
      rw [List.take_of_length_le (by rw [HNL.out]; exact Nat.le_refl _), HYS.out] at ho
      have HO3 := Lib.hid ho
      clear ho
      go_wp2
      go_ret
      exact ⟨_, rfl, HO3.out, HB.out⟩
end Go.Proofs.YtmepaeahchiglaaGreatDoor
