/-
  slices.Repeat at a slice of one string. Conditions: at most 100,000 copies.
-/
import Derived.Test.YtcdpadggjkobjaaDoorLists
import Derived.Laws.CopyOwn
import Derived.Deep.RegionLaw
import Derived.Test.YtcdpadggjkobjaaDoorStill
namespace Go.Proofs.YtcdpadggjkobjaaDoor
open Go.RowKit Go.Lib

def RepRow (n c : Nat) (x z : Value) : List Value := List.replicate n x ++ List.replicate (c - n) z
theorem repRow_len {n c : Nat} (h : n ≤ c) (x z : Value) : (RepRow n c x z).length = c := by simp [RepRow]; omega
theorem repRow_splice {n m c : Nat} (h : n + m ≤ c) (x z : Value) : splice (RepRow n c x z) n (List.replicate m x) = RepRow (n + m) c x z := by
  unfold splice RepRow
  rw [List.take_left' (by simp), List.length_replicate, List.drop_append, List.length_replicate, List.drop_eq_nil_of_le (by simp), List.drop_replicate]
  rw [List.nil_append, ← List.append_assoc, List.replicate_append_replicate]
  congr 2; omega
theorem repRow_get {n c j : Nat} {x z : Value} (hj : j < n) : (RepRow n c x z)[j]? = some x := by
  unfold RepRow
  rw [List.getElem?_append_left (by simpa using hj), List.getElem?_replicate, if_pos hj]
theorem made_row {w : World} {base g c : Nat} {e : TypeId} {xs : List Value} (h : w.ownsRow base e 1 (.slice (some ⟨g, 0, none⟩) c c) c xs) : w.heap[g]? = some (.cells xs.toArray e (0, 0)) := by
  rcases h.2 with ⟨h', _⟩ | ⟨g', cap', cur, h', _, hg, _, _, hs, ht⟩
  · simp at h'
  · simp only [Value.slice.injEq, Option.some.injEq, Addr.mk.injEq, and_true, true_and] at h'
    obtain ⟨rfl, rfl⟩ := h'
    rw [hg, ← ht, List.take_of_length_le (by simp [hs])]
theorem row_made {w : World} {base g c : Nat} {e : TypeId} {xs : List Value} (h : w.heap[g]? = some (.cells xs.toArray e (0, 0))) (hl : xs.length = c) (hb : base ≤ g) (hc : c ≤ maxLen) : w.ownsRow base e 1 (.slice (some ⟨g, 0, none⟩) c c) c xs :=
  ⟨by simp [hl], .inr ⟨g, c, xs.toArray, rfl, hb, h, Nat.le_refl _, hc, by simp [hl], by simp [← hl]⟩⟩
theorem step_copied {P : Program} {ops : Array Oper} {o : Oper} {a : Act} {w : World} {K : Act → World → Prop} {Q : Exit → Act → World → Prop} {E : Prop} (hg : o.guard = none) (d x : Operand) (dT sT : TypeId)
    (hop : o.op = .call { callee := .builtin .copy, args := #[d, x], argTypes := #[dT, sT] }) (v u : Value) (hd : a.eval d = v) (hx : a.eval x = u) {n : Value} {W : World}
    (hr : (Builtin.copy_ #[dT, sT] o.type #[v, u]).run P w = .ok n W) (hK : K (a.put o.dst n) W) : if Region.wanted o (yielded ops a.tmps) = true then Oper.wp P o a w K Q else E := by
  rw [if_pos (by simp [Region.wanted, hg])]
  unfold Oper.wp
  simp [execOp, hop, resolve, invoke, builtin, hd, hx, hr, Result.andThen]
  exact hK
set_option maxRecDepth 20000 in
set_option maxHeartbeats 2000000 in
theorem repeatS_any (A : Option Addr) (c0 : Nat) (x : ByteArray) (c : Nat) (w : World) (hr : ReadS w w.heap.size A 1 [x]) (hc0 : 0 < c) (hc : c ≤ 100000) :
    Calls Tryd.prog 44 #[.slice A 1 c0, .int .i64 c] w (GivesS w (List.replicate c x)) := by
  obtain ⟨i0, hi, hz0, hz1, hz2⟩ := info_parts info_string
  obtain ⟨ad, rfl, had, hcx⟩ := ReadS.at_ (k := 0) hr (by simp)
  simp only [List.getElem_cons_zero] at hcx
  have hml := fun W => Tryd.bits_Mul 1 c (by omega) (by omega) W
  rw [Nat.one_mul, Nat.div_eq_of_lt (by omega), Nat.mod_eq_of_lt (by omega)] at hml
  have HML := Lib.hid hml
  have hwr : IntKind.u64.wrap (c : Int) = c := by simp [IntKind.wrap, IntKind.bits, IntKind.signed]; omega
  clear hml hr
  go_enter Tryd.func44, Tryd.ntmps44
  go_wp2_with fail
  refine (HML.out _).mono ?_
  rintro e w' ⟨rfl, rfl⟩
  have hsz : (Tryd.prog.info? 9).map (·.size) = some 1 := by rw [hi]; simp [hz1]
  have HSZ := Lib.hid hsz
  clear hsz
  go_wp2_with (first
    | (at_make; refine wpList_make_full _ rfl _ _ 22 rfl w'.heap.size 9 i0 (.string ByteArray.empty) 1 Tryd.underlying22 hi hz0 hz1 .i64 .i64 c c c rfl rfl rfl rfl (by rw [hz2]; omega) (by unfold maxLen; omega) (Nat.le_refl _) ?_; intro w1 hmk hgm; have hb1 : Below w'.heap.size w' w1 := (Below.refl _ w').grown hgm (Nat.le_refl _) (fun g hg => by cases hg); have hg1 : w1.heap[w'.heap.size]? = some (.cells (RepRow 0 c (.string x) (.string ByteArray.empty)).toArray 9 (0, 0)) := by { have h := made_row hmk; rw [Nat.mul_one] at h; rw [h]; show some (Obj.cells (madeCells #[.string ByteArray.empty] c).toList.toArray _ _) = _; rw [toList_madeCells_one]; simp [RepRow] }; have HG1 := Lib.hid hg1; clear hg1 hmk hgm)
    | (refine wpList_copy_splice rfl (.tmp 31) (.tmp 32) 22 22 rfl 9 Tryd.underlying22 HSZ.out _ _ c c 1 c0 rfl rfl w'.heap.size 0 (RepRow 0 c (.string x) (.string ByteArray.empty)) 9 HG1.out [.string x] ?hn ?hp ?hf ?h1 w'.heap.size w' hb1 (Nat.le_refl _) ?_; (case hn => (show 1 = min 1 c; omega)); (case hp => exact fun _ => ⟨rfl, ad, rfl, fun j v hj => by { have hj0 : j = 0 := by { have := (List.getElem?_eq_some_iff.1 hj).1; simpa using this }; subst hj0; rw [List.getElem?_cons_zero] at hj; rw [← hj, hb1.cell (by rw [block_of_add]; exact had)]; exact hcx }⟩); (case hf => (rw [repRow_len (by omega)]; simp; omega)); (case h1 => (intro v hv; rw [List.mem_singleton.1 hv]; rfl)); intro w2 hg2 hb2))
  have hg2' : w2.heap[w'.heap.size]? = some (.cells (RepRow 1 c (.string x) (.string ByteArray.empty)).toArray 9 (0, 0)) := by
    have h := hg2
    unfold Hid at h
    have hs := repRow_splice (n := 0) (m := 1) (c := c) (by omega) (.string x) (.string ByteArray.empty)
    rw [Nat.zero_add] at hs
    rw [← hs]; exact h
  have HG2 := Lib.hid hg2'
  clear hg2 hg2' hcx HG1
  generalize hgg : w'.heap.size = g at *
  have HGG := Lib.hid hgg; clear hgg
  go_loopw [8] (fun nv wr => ∃ n : Nat, 0 < n ∧ n ≤ c ∧ nv = .int .i64 n ∧ Hid (wr.heap[g]? = some (.cells (RepRow n c (.string x) (.string ByteArray.empty)).toArray 9 (0, 0))) ∧ Below g w' wr) (fun nv _ => c - (intOf nv).toNat)
  case atStart => exact ⟨1, by omega, by omega, rfl, HG2, hb2⟩
  case round =>
    obtain ⟨n, hn0, hnc, rfl, hgr, hbr⟩ := hrel
    by_cases hlt : n < c
    · obtain ⟨m, hm1, hm2, hm3, hmin⟩ : ∃ m : Nat, 0 < m ∧ m ≤ n ∧ n + m ≤ c ∧ m = Nat.min n (c - n) := ⟨min n (c - n), by omega, by omega, by omega, rfl⟩
      have hcells : ∀ j, j < n → wr.cell? ⟨g, j, none⟩ = some (.string x) := fun j hj => by
        rw [cell_of_row wr g j _ _ (0, 0) hgr.out]
        have := repRow_get (n := n) (c := c) (j := j) (x := .string x) (z := .string ByteArray.empty) hj
        simpa using this
      have HC := Lib.hid hcells; have HMIN := Lib.hid hmin
      have hcn : ¬ (c = n) := by omega
      have hgd : (wr.drew).heap[g]? = some (.cells (RepRow n c (.string x) (.string ByteArray.empty)).toArray 9 (0, 0)) := hgr.out
      have HGD := Lib.hid hgd; clear hgd
      clear hcells hmin
      obtain ⟨W4, hr4, hg4, hb4⟩ : ∃ W4, (Builtin.copy_ #[22, 22] 3 #[.slice (some ⟨g, n, none⟩) (c - n) (c - n), .slice (some ⟨g, 0, none⟩) n c]).run Tryd.prog wr.drew = .ok (.int .i64 m) W4 ∧ W4.heap[g]? = some (.cells (splice (RepRow n c (.string x) (.string ByteArray.empty)) n (List.replicate m (.string x))).toArray 9 (0, 0)) ∧ Below g w' W4 := by
        have hrun := run_copy_row (P := Tryd.prog) wr.drew 22 22 3 9 g n (c - n) (c - n) ⟨g, 0, none⟩ n c (RepRow n c (.string x) (.string ByteArray.empty)).toArray 9 (List.replicate m (.string x)) Tryd.underlying22 HSZ.out HGD.out
          (by rw [List.length_replicate]; exact HMIN.out)
          (fun j v hj => by
            rw [List.getElem?_replicate] at hj
            by_cases hjm : j < m
            · rw [if_pos hjm] at hj
              injection hj with hj
              rw [add_at, ← hj]
              exact HC.out j (by omega)
            · rw [if_neg hjm] at hj; cases hj)
          (by rw [List.size_toArray, repRow_len (by omega), List.length_replicate]; exact hm3)
          (fun v hv => by rw [List.eq_of_mem_replicate hv]; rfl)
        rw [List.length_replicate] at hrun
        refine ⟨_, hrun, ?_, below_setRow hbr.drew (Nat.le_refl _) _⟩
        have h := setRow_heap wr.drew g (RepRow n c (.string x) (.string ByteArray.empty)).toArray (splice (RepRow n c (.string x) (.string ByteArray.empty)) n (List.replicate m (.string x))).toArray 9 _ HGD.out
        simpa [splice] using h
      have HR4 := Lib.hid hr4; have HG4 := Lib.hid hg4
      clear hr4 hg4
      have hwm : IntKind.i64.wrap ((n : Int) + (m : Int)) = (n : Int) + (m : Int) := by rw [IntKind.wrap_i64]; omega
      go_wp2_with fail
      go_region_law (refine step_copied rfl (.tmp 41) (.tmp 44) 22 22 rfl (.slice (some ⟨g, n, none⟩) (c - n) (c - n)) (.slice (some ⟨g, 0, none⟩) n c) (by simp [Act.eval, Act.put]) (by simp [Act.eval, Act.put]) HR4.out ?_)
      go_simp
      have hg5 : W4.heap[g]? = some (.cells (RepRow (n + m) c (.string x) (.string ByteArray.empty)).toArray 9 (0, 0)) := by
        rw [← repRow_splice hm3]; exact HG4.out
      have HG5 := Lib.hid hg5
      clear hg5
      try go_wp2
      go_roundw
      case rel => exact ⟨n + m, by omega, hm3, by simp, HG5, hb4⟩
      case measure => simp [intOf]; omega
    · obtain rfl : n = c := by omega
      have hown := row_made (w := wr) (base := g) hgr.out (repRow_len (Nat.le_refl _) _ _) (Nat.le_refl _) (by unfold maxLen; omega)
      rw [show RepRow n n (.string x) (.string ByteArray.empty) = strs (List.replicate n x) by simp [RepRow]] at hown
      clear hgr HG2
      go_wp2
      go_ret
      refine ⟨_, rfl, ?_, by rw [HGG.out]; exact hbr⟩
      rw [List.length_replicate, HGG.out]
      exact hown
end Go.Proofs.YtcdpadggjkobjaaDoor
