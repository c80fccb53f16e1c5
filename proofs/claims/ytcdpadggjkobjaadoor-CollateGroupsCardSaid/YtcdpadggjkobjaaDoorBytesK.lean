/-
  Rows of bytes that a call made: turned into a string, one byte set, cloned. Conditions: lengths of the reach.
-/
import Derived.Test.YtcdpadggjkobjaaDoorMem
import Derived.Test.YtcdpadggjkobjaaDoorStill
import Derived.Laws.IdiomStrings
import Derived.Test.YtcdpadggjkobjaaDoorLetters
namespace Go.Proofs.YtcdpadggjkobjaaDoor
open Go.RowKit Go.Lib

def bytesV (l : List UInt8) : List Value := l.map fun b => Value.int .u8 (b.toNat : Int)
theorem bytesV_length (l : List UInt8) : (bytesV l).length = l.length := by simp [bytesV]
theorem own_conv {w : World} {base : Nat} {v : Value} {n : Nat} {l : List UInt8} (h : w.ownsRow base 5 1 v n (bytesV l)) : (convert 42 9 v).run Tryd.prog w = .ok (.string ⟨l.toArray⟩) w := by
  have hl : l.length = n := by have := h.1; rw [bytesV_length] at this; omega
  have hr := fun A c (e : v = .slice A n c) => Reads.of_own (e ▸ h)
  rcases h.2 with ⟨rfl, h0⟩ | ⟨q, cap, cur, rfl, _⟩
  · have h0' : n = 0 := h0
    subst h0'
    obtain rfl : l = [] := List.eq_nil_of_length_eq_zero hl
    rw [run_convert_bytes_string w 42 9 5 none 0 0 Tryd.underlying42 Tryd.underlying5 Tryd.underlying9]
    rfl
  · subst hl
    refine run_convert_bytes_back (P := Tryd.prog) w 42 9 5 ⟨q, 0, none⟩ cap l Tryd.underlying42 Tryd.underlying5 Tryd.underlying9 (fun j hj => ?_)
    obtain ⟨ad, had, _, hc⟩ := (hr _ _ rfl).2 (by omega)
    injection had with had
    subst had
    exact hc j _ (by simp [bytesV, List.getElem?_map, List.getElem?_eq_getElem hj])
theorem own_set {w : World} {base q n c k : Nat} {e : TypeId} {xs : List Value} (h : w.ownsRow base e 1 (.slice (some ⟨q, 0, none⟩) n c) n xs) (u : Value) : (w.setCell ⟨q, k, none⟩ u).ownsRow base e 1 (.slice (some ⟨q, 0, none⟩) n c) n (xs.set k u) := by
  rcases h.2 with ⟨h', _⟩ | ⟨q', cap, cur, h', hb, hg, h3, h4, hs, ht⟩
  · simp at h'
  · simp only [Value.slice.injEq, Option.some.injEq, Addr.mk.injEq, and_true, true_and] at h'
    obtain ⟨rfl, rfl⟩ := h'
    refine ⟨by simpa using h.1, .inr ⟨q, c, cur.setIfInBounds k u, rfl, hb, Blk.set_ hg k u, h3, h4, by simpa using hs, ?_⟩⟩
    rw [Array.toList_setIfInBounds, Nat.mul_one, List.take_set]
    rw [Nat.mul_one] at ht; rw [ht]
set_option maxRecDepth 20000 in
set_option maxHeartbeats 1000000 in
theorem cloneB_any (A : Option Addr) (n c : Nat) (l : List UInt8) (w : World) (K : Nat) (hr : Reads w K 1 A n (bytesV l)) (hK : K ≤ w.heap.size) (hn : n ≤ 100000) :
    Calls Tryd.prog 28 #[.slice A n c] w fun e w' => ∃ v, e = .returned v ∧ w'.ownsRow w.heap.size 5 1 v n (bytesV l) ∧ Below w.heap.size w w' := by
  obtain ⟨i0, hi, hz0, hz1, hz2⟩ := info_parts (show (Tryd.prog.info? 5).map (fun i => (i.zero, i.size, i.bytes)) = some (some (.int .u8 0), 1, 1) by kernel_rfl)
  have hl := hr.1
  rw [bytesV_length] at hl
  have hnil := fun (W : World) (a : Option Addr) (n c : Nat) => Lib.run_eql_slice_nil (P := Tryd.prog) W 42 5 a n c 0 0 Tryd.underlying42
  rcases A with _ | ad
  · have h0 : n = 0 := by
      rcases Nat.eq_zero_or_pos n with h | h
      · exact h
      · obtain ⟨_, h', _⟩ := hr.2 h; cases h'
    subst h0
    obtain rfl : l = [] := List.eq_nil_of_length_eq_zero (by omega)
    go_enter Tryd.func28, Tryd.ntmps28
    go_wp2
    go_ret
    exact ⟨_, rfl, World.ownsRow_nil _ _ _ _, Below.refl _ _⟩
  · have hown := own_empty w 5 #[] 0 rfl (by unfold maxLen; omega)
    have hr' := (hr.more hK).alloc (Nat.le_refl _) (.cells #[] 5)
    go_enter Tryd.func28, Tryd.ntmps28
    go_wp2_with (at_builtin; refine wpList_append_any _ rfl _ _ _ rfl w.heap.size 5 i0 (.int .u8 0) 1 1 Tryd.underlying42 hi hz0 hz1 hz2 rfl (by decide) _ _ _ rfl hown w.heap.size _ _ _ (bytesV l) rfl hr' (by intro u hu; obtain ⟨x, _, rfl⟩ := List.mem_map.1 hu; rfl) (by unfold maxLen; omega) (by omega) (by simp) ?_; intro v' w1 hown' hgrow _)
    have hb1 : Below w.heap.size w w1 := ((Below.refl _ w).alloc (Nat.le_refl _) _).grown hgrow (by simp) (fun g hg => (hown.lt g hg).1)
    clear hgrow
    go_ret
    exact ⟨_, rfl, by simpa using hown', hb1⟩
end Go.Proofs.YtcdpadggjkobjaaDoor
