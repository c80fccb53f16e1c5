/-
  layer 43: the reference's check of a pattern. Conditions: a pattern that can be read.
-/
import Derived.Test.YtipfhamhiaeieaaDoorZcPkRn
import Derived.Test.YtipfhamhiaeieaaDoorZcPkRc
namespace Go.Proofs.YtipfhamhiaeieaaDoor
open Go.RowKit Go.Lib

/-- A pattern fits behind so many nodes. -/
def FitsP (p : Pt) (n : Nat) : Prop := ptOk p = true ∧ n + ptSize p ≤ 40
def WlkPost (p : Pt) (n : Nat) (w : World) (e : Ending) (w' : World) : Prop := ∃ k x : Int, e = .returned (.tuple #[.int .i64 k, .int .i64 x]) ∧ (x = 0 ↔ FitsP p n) ∧ (x = 0 → k = (n + ptSize p : Nat)) ∧ Below w.heap.size w w'
def WlkOk (m : Nat) : Prop := ∀ (p : Pt) (k : Int) (s : Snd) (neg : Bool) (lo hi : Int) (A : Option Addr) (n' c : Nat) (w : World) (B n : Nat), 40 - n ≤ m → n ≤ 40 → PatC w B p (patL k s neg lo hi (.slice A n' c)) → B ≤ w.heap.size →
  Calls Tryd.prog 95 #[patV k s neg lo hi (.slice A n' c), .int .i64 n] w (WlkPost p n w)
theorem ptsOk_take_step {l : List Pt} {i : Nat} (hi : i < l.length) : ptsOk (l.take (i + 1)) = (ptsOk (l.take i) && ptOk l[i]) := by
  rw [List.take_succ_eq_append_getElem hi, ptsOk_append, ptsOk_cons, ptsOk_nil, Bool.and_true]
theorem ptSizes_at {l : List Pt} {i : Nat} (hi : i < l.length) : ptSizes (l.take i) + ptSize l[i] ≤ ptSizes l := by
  rw [← ptSz_take hi]; exact ptSizes_take l (i + 1)
set_option maxRecDepth 20000 in
set_option maxHeartbeats 4000000 in
theorem wlk_step (m : Nat) (hm : ∀ q, q < m → WlkOk q) : WlkOk m := by
  rintro ⟨k, s, neg, lo, hi, l⟩ k' s' neg' lo' hi' A n' c w B n hnm hn hp hB
  rw [patC_mk] at hp
  obtain ⟨A', c', ys, he, h32, hc, hcm, hr, hps⟩ := hp
  simp only [patL, List.cons.injEq, Value.int.injEq, Value.bool.injEq, Value.slice.injEq, true_and, and_true] at he
  obtain ⟨rfl, h1, h2, rfl, rfl, rfl, rfl, rfl, rfl⟩ := he
  obtain rfl : s' = s := Prod.ext (by omega) (by omega)
  clear h1 h2
  have hb0 := (Below.refl w.heap.size w).alloc (Nat.le_refl _) (.cells #[.int .i64 k', .int .u32 s'.1, .int .u32 s'.2, .bool neg', .int .i64 lo', .int .i64 hi', .slice A l.length c] 27)
  have hk0 := Blk.new w 27 #[.int .i64 k', .int .u32 s'.1, .int .u32 s'.2, .bool neg', .int .i64 lo', .int .i64 hi', .slice A l.length c]
  have hnd := refNode_any k' s' neg' lo' hi' A l.length c (w.alloc (.cells #[.int .i64 k', .int .u32 s'.1, .int .u32 s'.2, .bool neg', .int .i64 lo', .int .i64 hi', .slice A l.length c] 27)) h32 (by omega)
  have HFT : Hid (FitsP (.mk k' s' neg' lo' hi' l) n ↔ nodeOk k' s' neg' lo' hi' l.length = true ∧ ptsOk l = true ∧ n + 1 + ptSizes l ≤ 40) := Lib.hid (by
    unfold FitsP
    rw [ptOk_mk, ptSize_mk, Bool.and_eq_true, and_assoc, Nat.add_assoc])
  have HSZ : Hid (n + ptSize (.mk k' s' neg' lo' hi' l) = n + 1 + ptSizes l) := Lib.hid (by rw [ptSize_mk]; omega)
  have HB0 := Lib.hid hb0; have HK0 := Lib.hid hk0; have HR := Lib.hid hr; have HPS := Lib.hid hps; have HM := Lib.hid hm; have HBL := Lib.hid hB; have HND := Lib.hid hnd
  clear hb0 hk0 hr hps hm hB hnd
  unfold WlkPost
  rw [HSZ.out]
  generalize FitsP (.mk k' s' neg' lo' hi' l) n = fit at *
  unfold maxLen at hcm
  by_cases h40 : n = 40
  · have hnI : (n : Int) = 40 := by omega
    go_enter Tryd.func95, Tryd.ntmps95
    go_wp2
    go_ret2
    exact ⟨_, _, rfl, ⟨fun h => absurd h (by decide), fun h => by have := (HFT.out.1 h).2.2; omega⟩, fun h => absurd h (by decide), HB0.out⟩
  · have hnI : ¬ (n : Int) = 40 := by omega
    go_enter Tryd.func95, Tryd.ntmps95
    go_wp2_with fail
    refine HND.out.mono ?_
    rintro e w1 ⟨x, rfl, hx, hb1⟩
    have HX := Lib.hid hx
    have HB1 := Lib.hid (HB0.out.trans (hb1.mono HB0.out.size))
    have HK1 := Lib.hid (HK0.out.below hb1 HK0.out.lt)
    clear hx hb1 HND HK0
    by_cases hx0 : x = 0
    · have hxB : (x != 0) = false := by rw [hx0]; rfl
      have hnode := HX.out.1 hx0
      have HN := Lib.hid hnode
      clear hnode
      subst hx0
      go_wp2
      go_loopw [7, 8] (fun t i wr => ∃ j : Nat, j ≤ l.length ∧ i = .int .i64 j ∧ t = .int .i64 ((n + 1 + ptSizes (l.take j) : Nat) : Int) ∧ ptsOk (l.take j) = true ∧ n + 1 + ptSizes (l.take j) ≤ 40 ∧ Below w1.heap.size w1 wr) (fun _ i _ => l.length - (RowKit.intOf i).toNat)
      case atStart => exact ⟨0, by omega, rfl, by rw [List.take_zero, ptSizes_nil, Nat.add_zero]; go_num, by rw [List.take_zero, ptsOk_nil], by rw [List.take_zero, ptSizes_nil]; omega, Below.refl _ _⟩
      case round =>
        obtain ⟨j, hj, rfl, rfl, hok, h40', hbw⟩ := hrel
        obtain ⟨t, ht⟩ : ∃ t, n + 1 + ptSizes (l.take j) = t := ⟨_, rfl⟩
        rw [ht] at h40' ⊢
        have hblk := HK1.out.below hbw HK1.out.lt
        obtain ⟨c0, c1, c2, c3, c4, c5, c6⟩ := hblk.seven
        have hall : Below w.heap.size w wr := HB1.out.trans (hbw.mono HB1.out.size)
        have htn : n + 1 ≤ t := by omega
        have HALL := Lib.hid hall; have HBW := Lib.hid hbw; have HTT := Lib.hid ht; have HOKT := Lib.hid hok
        clear hblk hall hbw ht hok
        by_cases hlt : j < l.length
        · have hjI : (j : Int) < (l.length : Int) := by omega
          have hadd := ptSz_take hlt
          have hokS := ptsOk_take_step hlt
          have hat := ptSizes_at hlt
          have hmem := fun h : ptsOk l = true => ptsOk_mem (List.getElem_mem hlt) h
          obtain ⟨ad, k1, s1, neg1, lo1, hi1, A1, n1, c1', rfl, had, hpc, e0, e1, e2, e3, e4, e5, e6⟩ := pat_cells (HR.out.below (HALL.out.mono HBL.out)) (HPS.out.below (HALL.out.mono HBL.out)) rfl (i := j) hlt
          have hcall := HM.out (40 - t) (by omega) l[j] k1 s1 neg1 lo1 hi1 A1 n1 c1' wr B t (by omega) h40' hpc (Nat.le_trans HBL.out HALL.out.size)
          have HCALL := Lib.hid hcall; have HADD := Lib.hid hadd; have HOKS := Lib.hid hokS; have HAT := Lib.hid hat; have HMEM := Lib.hid hmem
          clear hcall hadd hpc hokS hat hmem
          generalize l[j] = pj at *
          go_wp2_with fail
          refine HCALL.out.mono ?_
          rintro e w2 ⟨r, y, rfl, hy, hr2, hb2⟩
          have HY := Lib.hid hy; have HR2 := Lib.hid hr2
          have HB2 := Lib.hid (HBW.out.trans (hb2.mono HBW.out.size))
          clear hy hr2 hb2 HCALL
          by_cases hy0 : y = 0
          · have hyB : (y != 0) = false := by rw [hy0]; rfl
            have hf := HY.out.1 hy0
            have hrr := HR2.out hy0
            subst hrr
            have HF := Lib.hid hf
            clear hf
            subst hy0
            go_wp2
            go_roundw
            case rel => exact ⟨j + 1, by omega, by go_num, by rw [HADD.out, ← HTT.out]; go_num, by rw [HOKS.out, HOKT.out, HF.out.1]; rfl, by have := HF.out.2; have := HADD.out; have := HTT.out; omega, HB2.out⟩
            case measure => simp [RowKit.intOf]; omega
          · have hyB : (y != 0) = true := by simp [hy0]
            have HNF := Lib.hid (fun h => hy0 (HY.out.2 h))
            clear hy0
            go_wp2
            go_ret2
            refine ⟨_, _, rfl, ⟨fun h => by subst h; simp at hyB, fun h => ?_⟩, fun h => by subst h; simp at hyB, HB1.out.trans (HB2.out.mono HB1.out.size)⟩
            exfalso
            obtain ⟨_, h2, h3⟩ := HFT.out.1 h
            exact HNF.out ⟨HMEM.out h2, by have := HAT.out; have := HTT.out; omega⟩
        · obtain rfl : j = l.length := by omega
          have h1 := HTT.out
          have h2 := HOKT.out
          rw [List.take_length] at h1 h2
          have HFIT : Hid fit := Lib.hid (HFT.out.2 ⟨HN.out, h2, by omega⟩)
          have H1 := Lib.hid h1
          clear h1 h2
          go_wp2
          go_ret2
          exact ⟨_, _, rfl, ⟨fun _ => HFIT.out, fun _ => rfl⟩, fun _ => by rw [H1.out], HALL.out⟩
    · have hxB : (x != 0) = true := by simp [hx0]
      have HNX := Lib.hid (fun h => hx0 (HX.out.2 h))
      clear hx0
      go_wp2
      go_ret2
      exact ⟨_, _, rfl, ⟨fun h => by subst h; simp at hxB, fun h => absurd (HFT.out.1 h).1 HNX.out⟩, fun h => by subst h; simp at hxB, HB1.out⟩
theorem refWlk_any (m : Nat) : WlkOk m := by
  induction m using Nat.strongRecOn with
  | _ m ih => exact wlk_step m ih
set_option maxRecDepth 20000 in
theorem refCheck_any (p : Pt) (k : Int) (s : Snd) (neg : Bool) (lo hi : Int) (A : Option Addr) (n' c : Nat) (w : World) (B : Nat) (hp : PatC w B p (patL k s neg lo hi (.slice A n' c))) (hB : B ≤ w.heap.size) :
    Calls Tryd.prog 65 #[patV k s neg lo hi (.slice A n' c)] w fun e w' => ∃ x : Int, e = .returned (.int .i64 x) ∧ (x = 0 ↔ patOk p = true) ∧ Below w.heap.size w w' := by
  have hb0 := (Below.refl w.heap.size w).alloc (Nat.le_refl _) (.cells #[.int .i64 k, .int .u32 s.1, .int .u32 s.2, .bool neg, .int .i64 lo, .int .i64 hi, .slice A n' c] 27)
  have hc := refWlk_any 40 p k s neg lo hi A n' c _ B 0 (by omega) (by omega) (hp.below (hb0.mono hB)) (Nat.le_trans hB hb0.size)
  have HF : Hid (FitsP p 0 ↔ patOk p = true) := Lib.hid (by unfold FitsP patOk; rw [Bool.and_eq_true, decide_eq_true_iff, Nat.zero_add])
  have HC := Lib.hid hc; have HB0 := Lib.hid hb0
  clear hc hb0 hp hB
  generalize patOk p = ok at *
  go_enter Tryd.func65, Tryd.ntmps65
  go_wp2_with fail
  refine HC.out.mono ?_
  rintro e w1 ⟨r, x, rfl, hx, _, hb1⟩
  have HX := Lib.hid hx
  have HB1 := Lib.hid (HB0.out.trans (hb1.mono HB0.out.size))
  clear hb1 hx
  go_wp2
  go_ret
  exact ⟨x, rfl, HX.out.trans HF.out, HB1.out⟩
end Go.Proofs.YtipfhamhiaeieaaDoor
