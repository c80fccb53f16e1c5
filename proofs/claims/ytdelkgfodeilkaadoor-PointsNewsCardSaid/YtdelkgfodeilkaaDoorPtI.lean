/-
  layer 36: the iterator of where; Within. Conditions: nil, or a map that New made (or the zero one).
-/
import Derived.Test.YtdelkgfodeilkaaDoorPtA
import Derived.Test.YtdelkgfodeilkaaDoorRange
import Derived.Sort.QuietIn
namespace Go.Proofs.YtdelkgfodeilkaaDoor
open Go.RowKit Go.Shelf Go.Lib
attribute [local go_sem] Oper.semAt_some

abbrev encVi {n : Nat} (x : Fin n) : Array Value := #[.int .i64 (x.val : Int)]
def selL (n : Nat) (p : Nat → Bool) : List Nat := (List.range n).filter p
theorem selL_succ (n : Nat) (p : Nat → Bool) : selL (n + 1) p = selL n p ++ (if p n = true then [n] else []) := by
  unfold selL
  rw [List.range_succ, List.filter_append]
  congr 1
  cases h : p n <;> simp [h]
theorem selL_len (n : Nat) (p : Nat → Bool) : (selL n p).length ≤ n := by unfold selL; refine Nat.le_trans (List.length_filter_le _ _) ?_; simp
theorem selL_pre (k n : Nat) (p : Nat → Bool) (h : k ≤ n) : selL k p <+: selL n p := by
  induction n with
  | zero => obtain rfl : k = 0 := by omega
            exact List.prefix_refl _
  | succ n ih =>
    rcases Nat.lt_or_ge n k with h1 | h1
    · obtain rfl : k = n + 1 := by omega
      exact List.prefix_refl _
    · rw [selL_succ]; exact (ih h1).trans (List.prefix_append _ _)
theorem below_drewN (B : Nat) (w : World) (k : Nat) : Below B w (w.drewN k) := ⟨rfl, rfl, rfl, Nat.le_refl _, fun _ _ => rfl⟩
/-- What 'is' must be: it reads, and may draw. -/
def IsFn (fi : Nat) (lb : Array Value) (n : Nat) (p : Nat → Bool) (w0 : World) : Prop :=
  ∀ (W : World) (x : Nat), x < n → Below w0.heap.size w0 W → Calls Tryd.prog fi (#[.int .i64 (x : Int)] ++ lb) W fun e w' => e = .returned (.bool (p x)) ∧ ∃ k, w' = W.drewN k
theorem grown_drewN (W : World) (k : Nat) : W.grownBy (W.drewN k) none := ⟨rfl, rfl, rfl, Nat.le_refl _, fun _ _ _ => rfl⟩
set_option maxRecDepth 20000 in
set_option maxHeartbeats 4000000 in
theorem iterW (g : Nat) (M : Pts) (bm bi fi : Nat) (lb : Array Value) (n : Nat) (p : Nat → Bool) (w0 : World) (hM : MapAt w0 g M) (hn : M.names.length = n) (hn2 : n ≤ 128) (hbm : Blk w0 bm 27 #[.pointer (some ⟨g, 0, none⟩)])
    (ei : ∀ args w, (callFunc fi args).run Tryd.prog w = .ok (.enter fi args) w) (Inv : World → Prop) (hI0 : ∀ W, Below w0.heap.size w0 W → Inv W) (hId : ∀ W k, Inv W → Inv (W.drewN k))
    (hIv : ∀ W, Inv W → Blk W bi 83 #[.func (.func fi) #[] lb] ∧ ∀ x, x < n → Calls Tryd.prog fi (#[.int .i64 (x : Int)] ++ lb) W fun e w' => e = .returned (.bool (p x)) ∧ ∃ k, w' = W.drewN k) :
    IterAt Tryd.prog 77 #[.pointer (some ⟨bm, 0, none⟩), .pointer (some ⟨bi, 0, none⟩)] (encVi (n := n)) (fun _ => False) (fun A B => Inv A → Inv B) (fun xs => xs.map Fin.val = selL n p) (fun _ => True) n w0 := by
  intro l J Jx W hW hJ hJx hY h0
  refine callsIn_of_wp Tryd.func77 rfl trivial ?_ rfl
  simp only [Tryd.ntmps77, List.size_toArray, List.length_cons, List.length_nil, Nat.reduceAdd, Nat.reduceSub, Array.replicate_succ, Array.replicate_zero, List.push_toArray, List.append_toArray, List.nil_append, List.cons_append]
  have HJ := Lib.hid hJ
  have HY := Lib.hid hY; clear hY hJ hJx
  have hcm := (hbm.below hW hbm.lt).cell 0
  have hlen := callsIn_wide (n := 2).2 (lenP_any (some ⟨g, 0, none⟩) (some M) W ⟨g, rfl, hM.below hW⟩)
  rw [show lenO (some M) = n from hn] at hlen
  simp only [List.getElem?_toArray, List.getElem?_cons_zero] at hcm
  have HIV := Lib.hid hIv; have HID := Lib.hid hId; have HI0 := Lib.hid hI0
  clear hbm hM hIv hId hI0 hn
  gi_wp2_with fail
  refine ⟨trivial, hlen.mono ?_⟩
  rintro e w' ⟨rfl, rfl⟩
  gi_wp2
  gi_loopw [7] (fun z wr => ∃ (k : Nat) (xs : List (Fin n)), k ≤ n ∧ z = .int .i64 k ∧ Inv wr ∧ xs.map Fin.val = selL k p ∧ J xs wr) (fun z _ => n - (intOf z).toNat)
  case atStart => exact ⟨0, [], by omega, rfl, HI0.out _ hW, rfl, h0⟩
  case round =>
    obtain ⟨k, xs, hk, rfl, hB, hxs, hj⟩ := hrel
    have HXS := Lib.hid hxs
    have hxl : xs.length ≤ k := by
      have := congrArg List.length hxs
      rw [List.length_map] at this
      rw [this]; exact selL_len k p
    clear hxs
    by_cases hlt : k < n
    · have hci := (HIV.out wr hB).1.cell 0
      simp only [List.getElem?_toArray, List.getElem?_cons_zero] at hci
      have hcall := callsIn_wide (n := 2).2 ((HIV.out wr hB).2 k hlt)
      cases hp : p k
      · rw [hp] at hcall
        have hsc : selL (k + 1) p = selL k p := by rw [selL_succ, hp]; simp
        have HSC := Lib.hid hsc
        clear hsc hp
        gi_wp2_with fail
        refine ⟨trivial, hcall.mono ?_⟩
        rintro e w2 ⟨rfl, m, rfl⟩
        have hj2 := HJ.out _ _ _ none hj (grown_drewN wr m) (fun r e => by cases e)
        have HB2 := Lib.hid (HID.out wr m hB)
        gi_wp2
        refine ⟨(fun f h => by cases h), ?_⟩
        gi_wp2
        go_roundw
        case rel => exact ⟨k + 1, xs, by omega, by go_num, HB2.out, by rw [HSC.out]; exact HXS.out, hj2⟩
        case measure => simp [intOf]; omega
      · rw [hp] at hcall
        have hsc : selL (k + 1) p = selL k p ++ [k] := by rw [selL_succ, hp]; simp
        have HSC := Lib.hid hsc
        clear hsc hp
        gi_wp2_with fail
        refine ⟨trivial, hcall.mono ?_⟩
        rintro e w2 ⟨rfl, m, rfl⟩
        have hj2 := HJ.out _ _ _ none hj (grown_drewN wr m) (fun r e => by cases e)
        have hb2 := HID.out wr m hB
        have hY1 := HY.out xs ⟨k, hlt⟩ (wr.drewN m) hj2 (by omega)
        have HXK := Lib.hid (show (xs ++ [(⟨k, hlt⟩ : Fin n)]).map Fin.val = selL (k + 1) p by rw [HSC.out, List.map_append, HXS.out]; rfl)
        generalize xs ++ [(⟨k, hlt⟩ : Fin n)] = ys at hY1 HXK
        obtain ⟨fn, tmps, assign, body, hy, hR⟩ := hY1
        dsimp only [encVi] at hy
        have HB2 := Lib.hid hb2
        clear hb2 hj hj2 hcall
        gi_wp2_with fail
        refine hR.mono ?_
        rintro e W3 (⟨rfl, hJ3, hk3⟩ | ⟨rfl, hJx3⟩)
        · have HB3 := Lib.hid (hk3 HB2.out)
          clear hy hR hk3
          gi_wp2
          go_roundw
          case rel => exact ⟨k + 1, ys, by omega, by go_num, HB3.out, HXK.out, hJ3⟩
          case measure => simp [intOf]; omega
        · gi_wp2
          refine bodyPost_ret (results_none rfl _ _ _) rfl ?_
          exact ⟨⟨_, rfl⟩, .inr ⟨_, trivial, hJx3⟩⟩
    · obtain rfl : k = n := by omega
      gi_wp2
      go_end0
      exact ⟨⟨_, rfl⟩, .inl ⟨_, HXS.out, hj⟩⟩
/-- .. where nothing that lay there at the start turns. -/
theorem iterB (g : Nat) (M : Pts) (bm bi fi : Nat) (lb : Array Value) (n : Nat) (p : Nat → Bool) (w0 : World) (hM : MapAt w0 g M) (hn : M.names.length = n) (hn2 : n ≤ 128) (hbm : Blk w0 bm 27 #[.pointer (some ⟨g, 0, none⟩)])
    (hbi : Blk w0 bi 83 #[.func (.func fi) #[] lb]) (ei : ∀ args w, (callFunc fi args).run Tryd.prog w = .ok (.enter fi args) w) (hi : IsFn fi lb n p w0) :
    IterAt Tryd.prog 77 #[.pointer (some ⟨bm, 0, none⟩), .pointer (some ⟨bi, 0, none⟩)] (encVi (n := n)) (fun _ => False) (fun A B => Below w0.heap.size w0 A → Below w0.heap.size w0 B) (fun xs => xs.map Fin.val = selL n p) (fun _ => True) n w0 :=
  iterW g M bm bi fi lb n p w0 hM hn hn2 hbm ei (fun W => Below w0.heap.size w0 W) (fun _ h => h) (fun W k h => h.trans (below_drewN _ W k)) (fun W hW => ⟨hbi.below hW hbi.lt, fun x hx => hi W x hx hW⟩)
end Go.Proofs.YtdelkgfodeilkaaDoor
