/-
  IsoglossNil: the walk, out of what New hands back. Conditions: values of 64 bits. (Printed by law37c.py.)
-/
import Derived.Test.YtgimhjkijpcgjaaDoorIsLa
namespace Go.Proofs.YtgimhjkijpcgjaaDoor
open Go.RowKit Go.Lib

/-- The zero map. -/
def M00 : Pts := ⟨[], [], []⟩
theorem new00 : newE [] [] = 0 := by decide +kernel
theorem M00_new : newM [] [] = M00 := by rfl
theorem map00 {w : World} {g : Nat} (h : Blk w g 61 #[.slice none 0 0, .map none, .slice none 0 0, .slice none 0 0]) : MapAt w g M00 :=
  ⟨0, _, _, _, _, h, World.ownsRow_nil _ _ _ _, .inr ⟨rfl, rfl⟩, World.ownsRow_nil _ _ _ _, ⟨[], World.ownsRow_nil _ _ _ _, rfl, fun _ hk => absurd hk (Nat.not_lt_zero _)⟩⟩
def Emp (om : Option Pts) : Prop := om = none ∨ om = some M00
theorem Emp.new {om : Option Pts} (h : Emp om) : NewO om := fun M e => by
  rcases h with rfl | rfl
  · cases e
  · injection e with e
    exact ⟨[], [], new00, e.symm.trans M00_new.symm⟩
theorem Emp.len {om : Option Pts} (h : Emp om) : lenO om = 0 := by rcases h with rfl | rfl <;> rfl
theorem Emp.chk {om : Option Pts} (h : Emp om) (l : List (List Int)) : chkN (lenO om) l = 1 := by rw [h.len]; rfl
theorem Emp.alk {om : Option Pts} (h : Emp om) (l : List (List Int)) (a : Int) : alkE (lenO om) l a = 1 := by
  unfold alkE
  rw [h.chk, if_neg (by decide)]
/-- The three maps. -/
structure Env0 (w W : World) (gl : Nat) (ps : List (Option Addr)) (A : Option Addr) (n : Nat) (vs : List Int) : Prop where
  row : Blk W gl 27 (ps.map Value.pointer).toArray
  maps : ∀ k (hk : k < ps.length), ∃ om, Emp om ∧ MapO W ps[k] om
  rv : ReadI W W.heap.size A n vs
  below : Below w.heap.size w W
theorem Env0.later {w W W' : World} {gl : Nat} {ps : List (Option Addr)} {A : Option Addr} {n : Nat} {vs : List Int} (h : Env0 w W gl ps A n vs) (hb : Below W.heap.size W W') : Env0 w W' gl ps A n vs :=
  ⟨h.row.below hb h.row.lt, fun k hk => by obtain ⟨om, h1, h2⟩ := h.maps k hk; exact ⟨om, h1, h2.below hb⟩, ReadI.later h.rv hb, h.below.trans (hb.mono h.below.size)⟩
theorem Env0.ll {w W : World} {gl : Nat} {ps : List (Option Addr)} {A : Option Addr} {n c : Nat} {vs : List Int} (h : Env0 w W gl ps A n vs) (hn : n ≤ c) (hc : c ≤ maxLen) : ReadII (W.alloc (.cells #[.slice A n c] 26)) (W.alloc (.cells #[.slice A n c] 26)).heap.size (some ⟨W.heap.size, 0, none⟩) 1 [vs] := by
  rw [World.size_alloc]; exact readII_one W A n c vs h.rv hn hc
set_option maxRecDepth 40000 in
set_option maxHeartbeats 8000000 in
theorem nil37_law (hnew : NewAny) (hwk : Works37) (A : Option Addr) (n c : Nat) (vs : List Int) (x : Int) (w : World) (hV : ReadI w w.heap.size A n vs) (hvok : ∀ v ∈ vs, okI v) (hnc : n ≤ c) (hcm : c ≤ maxLen) :
    Calls Tryd.prog 5 #[.slice A n c, .int .i64 x] w fun e w' => e = .returned (.bool true) ∧ Below w.heap.size w w' := by
  have hn := hnew none none 0 0 0 0 [] [] w Reads.none_ Reads.none_ (by simp)
  have HN := Lib.hid hn; have HV := Lib.hid hV; have HVO := Lib.hid hvok; have HWK := Lib.hid hwk
  clear hn hnew hV hvok hwk
  go_enter Tryd.func5, Tryd.ntmps5
  go_wp2_with fail
  refine HN.out.mono ?_
  intro e w1 h1
  obtain ⟨p, rfl, hM, hb1⟩ := h1.om
  have e1 : newO [] [] = some M00 := by unfold newO; rw [if_pos new00, M00_new]
  rw [e1] at hM
  rw [new00]
  have hz := World.size_alloc w1 (.cells #[.slice none 0 0, .map none, .slice none 0 0, .slice none 0 0] 61)
  have hm := (Blk.new w1 61 #[.slice none 0 0, .map none, .slice none 0 0, .slice none 0 0]).alloc (.cells #[.pointer none, .pointer (some ⟨w1.heap.size, 0, none⟩), .pointer p] 27)
  have hl := Blk.new (w1.alloc (.cells #[.slice none 0 0, .map none, .slice none 0 0, .slice none 0 0] 61)) 27 #[.pointer none, .pointer (some ⟨w1.heap.size, 0, none⟩), .pointer p]
  rw [hz] at hl
  have hb0 : Below w1.heap.size w1 ((w1.alloc (.cells #[.slice none 0 0, .map none, .slice none 0 0, .slice none 0 0] 61)).alloc (.cells #[.pointer none, .pointer (some ⟨w1.heap.size, 0, none⟩), .pointer p] 27)) := ((Below.refl _ w1).alloc (Nat.le_refl _) _).alloc (by rw [World.size_alloc]; omega) _
  have E := Lib.hid (Env0.mk (ps := [none, some ⟨w1.heap.size, 0, none⟩, p]) hl (fun k hk => by
    have hk3 : k = 0 ∨ k = 1 ∨ k = 2 := by simp at hk; omega
    rcases hk3 with rfl | rfl | rfl
    · exact ⟨none, .inl rfl, rfl⟩
    · exact ⟨some M00, .inr rfl, _, rfl, map00 hm⟩
    · exact ⟨some M00, .inr rfl, hM.below hb0⟩) (ReadI.later HV.out (hb1.trans (hb0.mono hb1.size))) (hb1.trans (hb0.mono hb1.size)) : Env0 w _ (w1.heap.size + 1) [none, some ⟨w1.heap.size, 0, none⟩, p] A n vs)
  clear h1 hM hb1 hb0 hl hm hz e1 HN HV
  go_wp2
  generalize hps : [none, some (⟨w1.heap.size, 0, none⟩ : Addr), p] = ps at E
  have HPS := Lib.hid hps
  clear hps
  generalize hwz : (w1.alloc (.cells #[.slice none 0 0, .map none, .slice none 0 0, .slice none 0 0] 61)).alloc (.cells #[.pointer none, .pointer (some ⟨w1.heap.size, 0, none⟩), .pointer p] 27) = wz at E ⊢
  clear hwz
  go_loopw [36] (fun v wr => ∃ r : Nat, r ≤ 3 ∧ v = .int .i64 r ∧ Env0 w wr (w1.heap.size + 1) ps A n vs) (fun v _ => 3 - (intOf v).toNat)
  case atStart => exact ⟨0, by omega, rfl, E.out⟩
  case round =>
    obtain ⟨r, hr, rfl, hE⟩ := hrel
    clear E
    have E := Lib.hid hE
    clear hE
    by_cases hlt : r < 3
    · have hrl : r < ps.length := by rw [← HPS.out]; exact hlt
      have HPM := Lib.hid (E.out.maps r hrl)
      have hcell : wr.cell? ⟨w1.heap.size + 1, r, none⟩ = some (.pointer ps[r]) := by
        have := E.out.row.cell r
        rw [List.getElem?_toArray, List.getElem?_map, List.getElem?_eq_getElem hrl] at this
        exact this
      generalize ps[r] = q at HPM hcell
      obtain ⟨om, ho, hm0⟩ := HPM.out
      have HO := Lib.hid ho; have HM := Lib.hid hm0
      clear ho hm0 HPM
      have hltI : (r : Int) < 3 := by omega
      have q0 := cutsP_any q om A n c vs _ HM.out HO.out.new E.out.rv hnc hcm
      unfold GivesE at q0
      rw [HO.out.chk] at q0
      go_wp2_with fail
      refine q0.mono ?_
      rintro e w2 ⟨v, rfl, ho, hb⟩
      obtain ⟨A1, c1, rfl, _, _⟩ := ownsRow_form ho
      clear ho
      have E' := Lib.hid (E.out.later hb)
      have HM' := Lib.hid (HM.out.below hb)
      clear E HM q0 hb
      have E := E'; have HM := HM'
      clear E' HM'
      have hal := (Below.refl w2.heap.size w2).alloc (Nat.le_refl _) (.cells #[.slice A n c] 26)
      have q0 := bundlesP_any q om (some ⟨w2.heap.size, 0, none⟩) 1 1 [vs] _ (HM.out.below hal) HO.out.new (E.out.ll hnc hcm) (plainA_at _) (by unfold maxLen; decide)
      unfold GivesE at q0
      rw [HO.out.chk] at q0
      go_wp2_with fail
      refine q0.mono ?_
      rintro e w3 ⟨v, rfl, ho, hb⟩
      obtain ⟨A2, c2, rfl, _, _⟩ := ownsRow_form ho
      clear ho
      have hb' := hal.trans (hb.mono hal.size)
      clear hb hal
      have hb := hb'
      clear hb'
      have E' := Lib.hid (E.out.later hb)
      have HM' := Lib.hid (HM.out.below hb)
      clear E HM q0 hb
      have E := E'; have HM := HM'
      clear E' HM'
      have q0 := regionsP_any q om A n c vs _ HM.out HO.out.new E.out.rv hnc hcm
      unfold GivesE at q0
      rw [HO.out.chk] at q0
      go_wp2_with fail
      refine q0.mono ?_
      rintro e w4 ⟨v, rfl, ho, hb⟩
      obtain ⟨A3, c3, rfl, _, _⟩ := ownsRow_form ho
      clear ho
      have E' := Lib.hid (E.out.later hb)
      have HM' := Lib.hid (HM.out.below hb)
      clear E HM q0 hb
      have E := E'; have HM := HM'
      clear E' HM'
      have q0 := islandsP_any q om A n c vs _ HM.out HO.out.new E.out.rv hnc hcm HVO.out
      unfold GivesE at q0
      rw [HO.out.chk] at q0
      go_wp2_with fail
      refine q0.mono ?_
      rintro e w5 ⟨v, rfl, ho, hb⟩
      obtain ⟨A4, c4, rfl, _, _⟩ := ownsRow_form ho
      clear ho
      have E' := Lib.hid (E.out.later hb)
      have HM' := Lib.hid (HM.out.below hb)
      clear E HM q0 hb
      have E := E'; have HM := HM'
      clear E' HM'
      have hal := (Below.refl w5.heap.size w5).alloc (Nat.le_refl _) (.cells #[.slice A n c] 26)
      have q0 := alikeP_any q om (some ⟨w5.heap.size, 0, none⟩) 1 1 [vs] x _ (HM.out.below hal) HO.out.new (E.out.ll hnc hcm) (plainA_at _) (by unfold maxLen; decide)
      unfold IntE at q0
      rw [HO.out.alk] at q0
      go_wp2_with fail
      refine q0.mono ?_
      rintro e w6 ⟨rfl, hb⟩
      have hb' := hal.trans (hb.mono hal.size)
      clear hb hal
      have hb := hb'
      clear hb'
      have E' := Lib.hid (E.out.later hb)
      have HM' := Lib.hid (HM.out.below hb)
      clear E HM q0 hb
      have E := E'; have HM := HM'
      clear E' HM'
      have hal := (Below.refl w6.heap.size w6).alloc (Nat.le_refl _) (.cells #[.slice A n c] 26)
      have q0 := bordersP_any q om (some ⟨w6.heap.size, 0, none⟩) 1 1 [vs] x _ (HM.out.below hal) HO.out.new (E.out.ll hnc hcm) (plainA_at _) (by unfold maxLen; decide)
      unfold GivesE at q0
      rw [HO.out.chk] at q0
      go_wp2_with fail
      refine q0.mono ?_
      rintro e w7 ⟨v, rfl, ho, hb⟩
      obtain ⟨A6, c6, rfl, _, _⟩ := ownsRow_form ho
      clear ho
      have hb' := hal.trans (hb.mono hal.size)
      clear hb hal
      have hb := hb'
      clear hb'
      have E' := Lib.hid (E.out.later hb)
      have HM' := Lib.hid (HM.out.below hb)
      clear E HM q0 hb
      have E := E'; have HM := HM'
      clear E' HM'
      obtain ⟨fx, fy, hf⟩ := cmp_form om vs
      have HF := Lib.hid hf
      clear hf
      have q0 := compactP_any q om A n c vs _ HM.out HO.out.new E.out.rv hnc hcm
      unfold FracE at q0
      rw [HF.out, show cmpE om vs = 1 from HO.out.chk _] at q0
      go_wp2_with fail
      refine q0.mono ?_
      rintro e w8 ⟨rfl, hb⟩
      have hb' := hb.trans (((Below.refl w8.heap.size w8).alloc (Nat.le_refl _) (.cells #[.int .i64 fx, .int .i64 fy] 37)).mono hb.size)
      clear hb
      have hb := hb'
      clear hb'
      have E' := Lib.hid (E.out.later hb)
      have HM' := Lib.hid (HM.out.below hb)
      clear E HM q0 hb
      have E := E'; have HM := HM'
      clear E' HM'
      clear hcell
      go_wp2
      go_roundw
      case rel => exact ⟨r + 1, by omega, by go_num, E.out⟩
      case measure => simp [intOf]; omega
    · obtain rfl : r = 3 := by omega
      go_wp2_with fail
      refine (HWK.out _).mono ?_
      rintro e w9 ⟨rfl, hb⟩
      have HBE := Lib.hid (E.out.below.trans (hb.mono E.out.below.size))
      clear hb
      go_wp2
      go_ret
      exact ⟨rfl, HBE.out⟩
end Go.Proofs.YtgimhjkijpcgjaaDoor
