/-
  PackWords: the walk. Conditions: a word that can be read.
-/
import Derived.Test.YtipfhamhiaeieaaDoorPkWl
namespace Go.Proofs.YtipfhamhiaeieaaDoor
open Go.RowKit Go.Lib

theorem numB_lt (n : Nat) : ∀ b ∈ numB n, b < 256 := numK_lt 5 n
theorem sndB_lt (s : Snd) : ∀ b ∈ sndB s, b < 256 := by
  intro b hb
  unfold sndB at hb
  rcases List.mem_append.1 hb with h | h <;> exact numB_lt _ b h
theorem putW_lt (ws : List Snd) : ∀ b ∈ putW ws, b < 256 := by
  intro b hb
  unfold putW at hb
  split at hb
  · unfold wordB allB at hb
    rcases List.mem_append.1 hb with h | h
    · exact numB_lt _ b h
    · obtain ⟨s, _, hs⟩ := List.mem_flatMap.1 h
      exact sndB_lt s b hs
  · cases hb
set_option maxRecDepth 20000 in
set_option maxHeartbeats 1000000 in
theorem packWords_law (A : Option Addr) (n c : Nat) (ws : List Snd) (w : World) (hr : Reads w w.heap.size 2 A n (ws.flatMap sndC)) (hok : ∀ s ∈ ws, ok32 s) (hn : n ≤ maxLen) :
    Calls Tryd.prog 4 #[.slice A n c] w fun e w' => e = .returned (.bool true) ∧ Below w.heap.size w w' := by
  have hp := putWord_any A n c _ ws w hr (Nat.le_refl _) hn hok
  have hq := fun (W : World) (hb : Below w.heap.size w W) => refPutWord_any A n c _ ws W (hr.below hb) hb.size hn hok
  have hlt := putW_lt ws
  have HWK := Lib.hid works_any
  generalize putW ws = bs at *
  generalize wordE ws = x at *
  have HP := Lib.hid hp; have HQ := Lib.hid hq; have HLT := Lib.hid hlt
  clear hr hok hp hq hlt
  unfold maxLen at hn
  by_cases hg : (100 : Int) < n
  · go_enter Tryd.func4, Tryd.ntmps4
    go_wp2_with fail
    refine (HWK.out _).mono ?_
    rintro e w1 ⟨rfl, hb⟩
    have HB := Lib.hid hb
    clear hb
    go_wp2
    go_ret
    exact ⟨rfl, HB.out⟩
  · go_enter Tryd.func4, Tryd.ntmps4
    go_wp2_with fail
    refine HP.out.mono ?_
    rintro e w1 ⟨v1, rfl, ho1, hb1⟩
    obtain ⟨A1, c1, rfl, hn1, hc1, hr1⟩ := own_reads ho1
    have HB1 := Lib.hid hb1; have HR1 := Lib.hid hr1
    clear hb1 hr1 ho1
    go_wp2_with fail
    refine (HQ.out _ HB1.out).mono ?_
    rintro e w2 ⟨v2, rfl, ho2, hb2⟩
    obtain ⟨A2, c2, rfl, hn2, hc2, hr2⟩ := own_reads ho2
    have hz := hb2.size
    have HR12 := Lib.hid ((HR1.out.below hb2).more hz)
    have HB2 := Lib.hid (HB1.out.trans (hb2.mono HB1.out.size)); have HR2 := Lib.hid hr2
    clear hb2 hr2 ho2 hz
    go_wp2_with fail
    refine (bytesEq_any A1 A2 _ _ c1 c2 _ bs bs _ HR12.out HR2.out HLT.out HLT.out).mono ?_
    rw [decide_eq_true rfl]
    rintro e w3 ⟨rfl, rfl⟩
    have hxx : (x == x) = true := by simp
    go_wp2_with fail
    refine (HWK.out _).mono ?_
    rintro e w4 ⟨rfl, hb⟩
    have HB := Lib.hid (HB2.out.trans (hb.mono HB2.out.size))
    clear hb
    go_wp2
    go_ret
    exact ⟨rfl, HB.out⟩
end Go.Proofs.YtipfhamhiaeieaaDoor
