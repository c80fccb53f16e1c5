/-
  PointsNil: the walk, out of New's contract. Conditions: a string of at most maxLen bytes.
-/
import Derived.Test.YtdelkgfodeilkaaDoorPtWk
import Derived.Test.YtdelkgfodeilkaaDoorPtO
import Derived.Deep.LoopGhost
namespace Go.Proofs.YtdelkgfodeilkaaDoor
open Go.RowKit Go.Lib

/-- The zero map. -/
def M0 : Pts := ⟨[], [], []⟩
theorem good0 : GoodM M0 where
  len := rfl
  few := by decide
  ends u v l h := by obtain ⟨hu, _⟩ := h; exact absurd hu (Nat.not_lt_zero _)
  sym u v l h := by obtain ⟨hu, _⟩ := h; exact absurd hu (Nat.not_lt_zero _)
  order u h := absurd h (Nat.not_lt_zero _)
theorem map0 {w : World} {g : Nat} (h : Blk w g 67 #[.slice none 0 0, .map none, .slice none 0 0, .slice none 0 0]) : MapAt w g M0 :=
  ⟨0, _, _, _, _, h, World.ownsRow_nil _ _ _ _, .inr ⟨rfl, rfl⟩, World.ownsRow_nil _ _ _ _, ⟨[], World.ownsRow_nil _ _ _ _, rfl, fun _ hk => absurd hk (Nat.not_lt_zero _)⟩⟩
/-- A map without points. -/
def Empty0 (om : Option Pts) : Prop := om = none ∨ om = some M0
theorem Empty0.good {om : Option Pts} (h : Empty0 om) : GoodO om := by
  rcases h with rfl | rfl
  · exact fun M e => by cases e
  · exact fun M e => by injection e with e; exact e ▸ good0
theorem Empty0.out {om : Option Pts} (h : Empty0 om) (a : Int) : ¬ inO om a := by
  rcases h with rfl | rfl
  · exact fun h => by have := h.2; have h1 := h.1; have : a < ((0 : Nat) : Int) := this; omega
  · exact fun h => by have := h.2; have h1 := h.1; have : a < ((0 : Nat) : Int) := this; omega
theorem Empty0.len {om : Option Pts} (h : Empty0 om) : lenO om = 0 := by rcases h with rfl | rfl <;> rfl
theorem Empty0.roads {om : Option Pts} (h : Empty0 om) : roadsO om = [] := by rcases h with rfl | rfl <;> rfl
theorem Empty0.find {om : Option Pts} (h : Empty0 om) (s : ByteArray) : findR om s = (0, false) := by rcases h with rfl | rfl <;> rfl
theorem Empty0.name {om : Option Pts} (h : Empty0 om) (a : Int) : nameAt (namesO om) a = ⟨#[]⟩ := by
  have : namesO om = [] := by rcases h with rfl | rfl <;> rfl
  rw [this]; unfold nameAt; rw [if_neg (by simp only [List.length_nil]; omega)]
theorem Empty0.near {om : Option Pts} (h : Empty0 om) (a : Int) : nearL om a = [] := by unfold nearL; rw [if_neg]; have := h.len; omega
theorem Empty0.mid {om : Option Pts} (h : Empty0 om) : midO om = (0, false) := by
  rcases h with rfl | rfl
  · rfl
  · show midS M0 = _
    unfold midS
    rw [if_neg (fun hx => absurd hx.2 (Nat.lt_irrefl 0))]
theorem Empty0.lab {om : Option Pts} (h : Empty0 om) : labO om = [] := by rcases h with rfl | rfl <;> rfl
theorem empty_slice {w : World} {base : Nat} {v : Value} {e : TypeId} {s : Nat} {xs : List Value} (h : w.ownsRow base e s v 0 xs) : ∃ A c, v = .slice A 0 c := by
  obtain ⟨A, c, h, _⟩ := ownsRow_form h
  exact ⟨A, c, h⟩
set_option maxRecDepth 40000 in
set_option maxHeartbeats 8000000 in
theorem nil_any (hnew : NewAny) (a b : Int) (s : ByteArray) (w : World) (hs : s.size ≤ maxLen) :
    Calls Tryd.prog 12 #[.int .i64 a, .int .i64 b, .string s] w fun e w' => e = .returned (.bool true) ∧ Below w.heap.size w w' := by
  have hwk := fun W => works_of hnew W
  have hz0 := World.size_alloc w (.cells #[.slice none 0 0, .map none, .slice none 0 0, .slice none 0 0] 67)
  have hm := (Blk.new w 67 #[.slice none 0 0, .map none, .slice none 0 0, .slice none 0 0]).alloc (.cells #[.pointer none, .pointer (some ⟨w.heap.size, 0, none⟩)] 27)
  have hl := Blk.new (w.alloc (.cells #[.slice none 0 0, .map none, .slice none 0 0, .slice none 0 0] 67)) 27 #[.pointer none, .pointer (some ⟨w.heap.size, 0, none⟩)]
  rw [hz0] at hl
  have hb0 : Below w.heap.size w ((w.alloc (.cells #[.slice none 0 0, .map none, .slice none 0 0, .slice none 0 0] 67)).alloc (.cells #[.pointer none, .pointer (some ⟨w.heap.size, 0, none⟩)] 27)) := ((Below.refl _ w).alloc (Nat.le_refl _) _).alloc (by rw [World.size_alloc]; omega) _
  have HM := Lib.hid hm; have HL := Lib.hid hl; have HB0 := Lib.hid hb0; have HWK := Lib.hid hwk
  clear hm hl hb0 hwk hz0
  go_enter Tryd.func12, Tryd.ntmps12
  go_wp2
  go_loopw [9] (fun j wr => ∃ k : Nat, k ≤ 2 ∧ j = .int .i64 k ∧ Blk wr w.heap.size 67 #[.slice none 0 0, .map none, .slice none 0 0, .slice none 0 0] ∧ Blk wr (w.heap.size + 1) 27 #[.pointer none, .pointer (some ⟨w.heap.size, 0, none⟩)] ∧ Below w.heap.size w wr) (fun j _ => 2 - (intOf j).toNat)
  case atStart => exact ⟨0, by omega, rfl, HM.out, HL.out, HB0.out⟩
  case round =>
    obtain ⟨k, hk, rfl, hm, hl, hb⟩ := hrel
    clear HM HL HB0
    by_cases hlt : k < 2
    · obtain ⟨p, om, hc, hO, hE⟩ : ∃ p om, wr.cell? ⟨w.heap.size + 1, k, none⟩ = some (.pointer p) ∧ MapO wr p om ∧ Empty0 om := by
        have : k = 0 ∨ k = 1 := by omega
        rcases this with rfl | rfl
        · exact ⟨none, none, by simpa using hl.cell 0, rfl, .inl rfl⟩
        · exact ⟨some ⟨w.heap.size, 0, none⟩, some M0, by simpa using hl.cell 1, ⟨_, rfl, map0 hm⟩, .inr rfl⟩
      have hkI : (k : Int) < 2 := by omega
      have hk0 : (0 : Int) ≤ (k : Int) := by omega
      have hG := hE.good
      have hf := findP_any p om s wr hO hs
      rw [hE.find] at hf
      have hd := distP_any p om a b wr hO hG
      rw [distO_out (fun h => hE.out a h.1)] at hd
      have HM := Lib.hid hm; have HL := Lib.hid hl; have HB := Lib.hid hb; have HO := Lib.hid hO; have HE := Lib.hid hE; have HG := Lib.hid hG
      clear hm hl hb hO hE hG
      go_wp2_with fail
      refine hf.mono ?_
      rintro e w' ⟨rfl, rfl⟩
      go_wp2_with fail
      refine hd.mono ?_
      rintro e w1 ⟨rfl, hb1⟩
      have hO1 := HO.out.below hb1
      have hmd := middleP_any p om w1 hO1 HG.out
      rw [HE.out.mid] at hmd
      have HO1 := Lib.hid hO1
      clear hO1
      go_wp2_with fail
      refine hmd.mono ?_
      rintro e w2 ⟨rfl, hb2⟩
      have hb12 := hb1.trans (hb2.mono hb1.size)
      have HB12 := Lib.hid hb12
      have hO2 := HO.out.below hb12
      have hln := lenP_any p om w2 hO2
      rw [HE.out.len] at hln
      have hnm := nameP_any p om a w2 hO2
      rw [HE.out.name] at hnm
      have hrd := roadsP_any p om w2 hO2 (by rw [HE.out.roads]; simp)
      rw [HE.out.roads] at hrd
      have HO2 := Lib.hid hO2
      clear hO2 hb1 hb2 hb12 hf hd hmd
      go_wp2_with fail
      refine hln.mono ?_
      rintro e w' ⟨rfl, rfl⟩
      go_wp2_with fail
      refine hnm.mono ?_
      rintro e w' ⟨rfl, rfl⟩
      go_wp2_with fail
      refine hrd.mono ?_
      rintro e w3 ⟨v3, rfl, ho3, hb3⟩
      obtain ⟨A3, c3, rfl⟩ := empty_slice ho3
      have HB3 := Lib.hid (HB12.out.trans (hb3.mono HB12.out.size))
      have hnr := nearP_any p om a w3 (HO.out.below HB3.out) (fun M e => by
        rcases HE.out with h | h
        · rw [h] at e; cases e
        · rw [h] at e; injection e with e; subst e; exact ⟨rfl, fun l hl => by cases hl⟩)
      rw [HE.out.near] at hnr
      clear ho3 hb3 hln hnm hrd
      go_wp2_with fail
      refine hnr.mono ?_
      rintro e w4 ⟨v4, rfl, ho4, hb4⟩
      obtain ⟨A4, c4, rfl⟩ := empty_slice ho4
      have HB4 := Lib.hid (HB3.out.trans (hb4.mono HB3.out.size))
      have hpt := pathP_any p om a b w4 (HO.out.below HB4.out) HG.out
      rw [wayO_out (fun h => HE.out.out a h.1)] at hpt
      clear ho4 hb4 hnr
      go_wp2_with fail
      refine hpt.mono ?_
      rintro e w5 ⟨v5, rfl, ho5, hb5⟩
      obtain ⟨A5, c5, rfl⟩ := empty_slice ho5
      have HB5 := Lib.hid (HB4.out.trans (hb5.mono HB4.out.size))
      have hwi := withinP_any p om a b w5 (HO.out.below HB5.out) HG.out
      rw [withinO_out (HE.out.out a)] at hwi
      clear ho5 hb5 hpt
      go_wp2_with fail
      refine hwi.mono ?_
      rintro e w6 ⟨v6, rfl, ho6, hb6⟩
      obtain ⟨A6, c6, rfl⟩ := empty_slice ho6
      have HB6 := Lib.hid (HB5.out.trans (hb6.mono HB5.out.size))
      have hlb := labelsP_any p om w6 (HO.out.below HB6.out) HG.out
      rw [HE.out.lab] at hlb
      clear ho6 hb6 hwi
      go_wp2_with fail
      refine hlb.mono ?_
      rintro e w7 ⟨v7, rfl, ho7, hb7⟩
      obtain ⟨A7, c7, rfl⟩ := empty_slice ho7
      have HB7 := Lib.hid (HB6.out.trans (hb7.mono HB6.out.size))
      clear ho7 hb7 hlb
      go_wp2
      go_roundw
      case rel => exact ⟨k + 1, by omega, by go_num, HM.out.below HB7.out HM.out.lt, HL.out.below HB7.out HL.out.lt, HB.out.trans (HB7.out.mono HB.out.size)⟩
      case measure => simp [intOf]; omega
    · obtain rfl : k = 2 := by omega
      have HB := Lib.hid hb
      have hw := HWK.out wr
      clear hm hl hb
      go_wp2_with fail
      refine hw.mono ?_
      rintro e w1 ⟨rfl, hb1⟩
      go_wp2
      go_ret
      exact ⟨rfl, HB.out.trans (hb1.mono HB.out.size)⟩
end Go.Proofs.YtdelkgfodeilkaaDoor
