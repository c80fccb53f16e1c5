/-
  layer 43: GetWord of the program. Conditions: bytes that can be read.
-/
import Derived.Test.YtipfhamhiaeieaaDoorPkRr
namespace Go.Proofs.YtipfhamhiaeieaaDoor
open Go.RowKit Go.Lib

/-- What GetWord returns: the word, how many bytes it has, the error. -/
def getW (bs : List Nat) : List Snd × Nat × Int := match wordR bs with
  | none => ([], 0, 10)
  | some (ws, r) => if wordE ws = 0 then (ws, bs.length - r.length, 0) else ([], 0, wordE ws)
def GivesW (w : World) (x : List Snd × Nat × Int) (e : Ending) (w' : World) : Prop := ∃ v, e = .returned (.tuple #[v, .int .i64 x.2.1, .int .i64 x.2.2]) ∧ wordW w.heap.size x.1 w' v ∧ Below w.heap.size w w'
theorem wordR_ok {bs r : List Nat} {ws : List Snd} (hb : ∀ b ∈ bs, b < 256) (h : wordR bs = some (ws, r)) : r.length ≤ bs.length ∧ ∀ s ∈ ws, ok32 s := by
  obtain ⟨e, h1, h2⟩ := canon_word bs ws r hb h
  refine ⟨?_, h2⟩
  rw [e, List.length_append]; omega
set_option maxRecDepth 20000 in
set_option maxHeartbeats 2000000 in
theorem getWord_any (w : World) (A : Option Addr) (n c B : Nat) (bs : List Nat) (hr : Reads w B 1 A n (bs.map bv)) (hB : B ≤ w.heap.size) (hn : n ≤ c) (hc : c ≤ maxLen) (hs : n ≤ 1073741824) (hb : ∀ b ∈ bs, b < 256) :
    Calls Tryd.prog 23 #[.slice A n c] w (GivesW w (getW bs)) := by
  have hrd := readW_any w A n c B bs hr hB hn hc hs hb
  have hbl : bs.length = n := by have := hr.1; simpa using this
  unfold getW
  cases hw : wordR bs with
  | none =>
    rw [hw] at hrd
    clear hr hb
    go_enter Tryd.func23, Tryd.ntmps23
    go_wp2_with fail
    refine hrd.mono ?_
    rintro e w1 ⟨h1, rfl⟩
    have H1 := Lib.hid h1
    clear h1
    go_wp2
    go_ret3
    exact ⟨_, rfl, World.ownsRow_nil _ _ _ _, H1.out⟩
  | some q =>
    obtain ⟨ws, r⟩ := q
    rw [hw] at hrd
    obtain ⟨hle, hok⟩ := wordR_ok hb hw
    have hrn : r.length ≤ n := by omega
    show Calls _ _ _ _ (GivesW w (if wordE ws = 0 then (ws, bs.length - r.length, 0) else ([], 0, wordE ws)))
    rw [hbl]
    have HOK := Lib.hid hok
    clear hr hb hw hok hbl hle
    by_cases h0 : wordE ws = 0
    · rw [if_pos h0]
      have hsub : (n : Int) - (r.length : Int) = ((n - r.length : Nat) : Int) := by omega
      have HSUB := Lib.hid hsub; have H0 := Lib.hid h0
      clear hsub h0
      go_enter Tryd.func23, Tryd.ntmps23
      go_wp2_with fail
      refine hrd.mono ?_
      rintro e w1 ⟨h1, v, rfl, h2⟩
      obtain ⟨A2, c2, rfl, h3, h4⟩ := ownsRow_form h2
      have hck := wordCheck_any A2 ws.length c2 w1.heap.size ws w1 (Reads.of_own h2) (Nat.le_refl _) (by omega) HOK.out
      rw [H0.out] at hck
      have H1 := Lib.hid h1; have H2 := Lib.hid h2
      clear h1 h2
      go_wp2_with fail
      refine hck.mono ?_
      rintro e w2 ⟨rfl, h5⟩
      have H5 := Lib.hid h5
      clear h5
      unfold maxLen at hc
      go_wp2
      go_ret3
      refine ⟨_, by rw [← HSUB.out]; rfl, ?_, H1.out.trans (H5.out.mono H1.out.size)⟩
      exact own_below' H2.out H5.out
    · rw [if_neg h0]
      have hne : (wordE ws != 0) = true := by simpa using h0
      clear h0
      go_enter Tryd.func23, Tryd.ntmps23
      go_wp2_with fail
      refine hrd.mono ?_
      rintro e w1 ⟨h1, v, rfl, h2⟩
      obtain ⟨A2, c2, rfl, h3, h4⟩ := ownsRow_form h2
      have hck := wordCheck_any A2 ws.length c2 w1.heap.size ws w1 (Reads.of_own h2) (Nat.le_refl _) (by omega) HOK.out
      have H1 := Lib.hid h1; have H2 := Lib.hid h2
      clear h1 h2 HOK
      generalize wordE ws = x at *
      go_wp2_with fail
      refine hck.mono ?_
      rintro e w2 ⟨rfl, h5⟩
      have H5 := Lib.hid h5
      clear h5
      go_wp2
      go_ret3
      exact ⟨_, rfl, World.ownsRow_nil _ _ _ _, H1.out.trans (H5.out.mono H1.out.size)⟩
end Go.Proofs.YtipfhamhiaeieaaDoor
