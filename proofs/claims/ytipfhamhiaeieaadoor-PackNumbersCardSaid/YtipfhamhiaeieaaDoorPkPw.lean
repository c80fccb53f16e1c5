/-
  layer 43: the program's PutWord. Conditions: a word that can be read.
-/
import Derived.Test.YtipfhamhiaeieaaDoorPkQ
namespace Go.Proofs.YtipfhamhiaeieaaDoor
open Go.RowKit Go.Lib

theorem wordB_len (ws : List Snd) : (wordB ws).length ≤ 5 + 10 * ws.length := by
  show (numB ws.length ++ ws.flatMap sndB).length ≤ _
  rw [List.length_append]
  have := numB_len ws.length
  have := flatB_len sndB_len ws
  omega
set_option maxRecDepth 20000 in
set_option maxHeartbeats 1000000 in
theorem putWord_any (A : Option Addr) (n c B : Nat) (ws : List Snd) (w : World) (hr : Reads w B 2 A n (ws.flatMap sndC)) (hB : B ≤ w.heap.size) (hn : n ≤ maxLen) (hok : ∀ s ∈ ws, ok32 s) :
    Calls Tryd.prog 17 #[.slice A n c] w (GivesBE w (putW ws) (wordE ws)) := by
  have hwl := hr.len_of (fun _ => rfl) (by decide)
  have hc := wordCheck_any A n c B ws w hr hB hn hok
  unfold GivesBE
  by_cases h0 : wordE ws = 0
  · have hp : putW ws = wordB ws := if_pos h0
    have h32 := wordE_len h0
    rw [hp, h0]
    rw [h0] at hc
    have hb := fun W (hW : Below w.heap.size w W) => allSnd_any (W.alloc (.cells #[.slice none 0 0] 62)) W.heap.size W.heap.size B A n c ws [] (own_none rfl) ((hr.below (hW.mono hB)).alloc (by have := hW.size; omega) _) (by have := hW.size; omega) (by omega) hok (by unfold CAP; simp; omega)
    rw [List.nil_append] at hb
    have HB := Lib.hid hb
    clear hr hok hb hp h0 hwl
    generalize wordB ws = bs at *
    go_enter Tryd.func17, Tryd.ntmps17
    go_wp2_with fail
    refine hc.mono ?_
    rintro e w1 ⟨rfl, hb1⟩
    have HB1 := Lib.hid hb1
    clear hb1
    go_wp2_with fail
    refine (HB.out _ HB1.out).mono ?_
    rintro e w2 ⟨rfl, h1, h2⟩
    have hw0 := own_none (w := w1) rfl
    have hbl := h2.below hw0
    obtain ⟨v, b1, b2, b3⟩ := h1
    have hc0 := b1.cell 0
    simp only [List.getElem?_toArray, List.getElem?_cons_zero] at hc0
    have hB2 : Below w.heap.size w w2 := (HB1.out.alloc HB1.out.size _).trans (hbl.mono HB1.out.size)
    have HB2 := Lib.hid hB2; have HO := Lib.hid b3
    clear hbl hw0 h2 b1 b2 b3 hB2
    go_wp2
    go_ret2
    exact ⟨_, rfl, own_mono HO.out HB1.out.size, HB2.out⟩
  · have hp : putW ws = [] := if_neg h0
    rw [hp]
    have hne : (wordE ws != 0) = true := by simpa using h0
    generalize wordE ws = x at *
    clear hr hok hp h0
    go_enter Tryd.func17, Tryd.ntmps17
    go_wp2_with fail
    refine hc.mono ?_
    rintro e w1 ⟨rfl, hb1⟩
    have HB1 := Lib.hid hb1
    clear hb1
    go_wp2
    go_ret2
    exact ⟨_, rfl, World.ownsRow_nil _ _ _ _, HB1.out⟩
end Go.Proofs.YtipfhamhiaeieaaDoor
