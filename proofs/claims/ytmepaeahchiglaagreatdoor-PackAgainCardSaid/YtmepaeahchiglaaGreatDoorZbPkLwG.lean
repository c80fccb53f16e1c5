/-
  layer 43: the program's GetLaw. Conditions: bytes that can be read.
-/
import Derived.Test.YtmepaeahchiglaaGreatDoorZbav
import Derived.Test.YtmepaeahchiglaaGreatDoorZbPkLvG
namespace Go.Proofs.YtmepaeahchiglaaGreatDoor
open Go.RowKit Go.Lib

def GivesL (w : World) (x : Lw × Nat × Int) (e : Ending) (w' : World) : Prop := ∃ cs, e = .returned (.tuple #[.agg cs.toArray, .int .i64 x.2.1, .int .i64 x.2.2]) ∧ LawF w' (fun b => w.heap.size ≤ b ∧ b < w'.heap.size) x.1 cs ∧ Below w.heap.size w w'
theorem results_lawT {fn : Func} {p q r : Tmp} (h : fn.results = #[.cell p 62, .tmp q, .tmp r]) (tmps : Array Value) (w : World) (a : Nat) (cs : List Value)
    (hp : tmps.getD p undef = wptr a) (ha : Blk w a 62 cs.toArray) (hlen : cs.length = 18) :
    (results fn tmps).run Tryz.prog w = .ok (.tuple #[.agg cs.toArray, tmps.getD q undef, tmps.getD r undef]) w := by
  have e1 := law_run ha hlen
  have hp' : tmps[p]?.getD undef = wptr a := by simpa using hp
  simp [results, h, hp', asAddr, e1]
set_option linter.unusedSimpArgs false in
set_option maxRecDepth 20000 in
set_option maxHeartbeats 4000000 in
theorem getLaw_any (w : World) (A : Option Addr) (n c B : Nat) (bs : List Nat) (hr : Reads w B 1 A n (bs.map bv)) (hB : B ≤ w.heap.size) (hn : n ≤ c) (hc : c ≤ maxLen) (hs : n ≤ 1073741824) (hb : ∀ b ∈ bs, b < 256) :
    Calls Tryz.prog 21 #[.slice A n c] w (GivesL w (getL bs)) := by
  obtain ⟨zl, hzl, hzlen, hzone⟩ : ∃ zl : List Value, zeroL = zl ∧ zl.length = 18 ∧ ∀ u ∈ zl, u.oneCell' = true := ⟨zeroL, rfl, rfl, by decide⟩
  have hx0 := Blk.new w 62 #[.string ⟨#[]⟩, .int .i64 0, .int .u32 0, .int .u32 0, .bool false, .int .i64 0, .int .i64 0, .slice none 0 0, .int .i64 0, .int .u32 0, .int .u32 0, .bool false, .int .i64 0, .int .i64 0, .slice none 0 0, .slice none 0 0, .slice none 0 0, .int .i64 0]
  have hz0 := (Below.refl w.heap.size w).alloc (Nat.le_refl _) (.cells #[.string ⟨#[]⟩, .int .i64 0, .int .u32 0, .int .u32 0, .bool false, .int .i64 0, .int .i64 0, .slice none 0 0, .int .i64 0, .int .u32 0, .int .u32 0, .bool false, .int .i64 0, .int .i64 0, .slice none 0 0, .slice none 0 0, .slice none 0 0, .int .i64 0] 62)
  have hrd := readL_any (w.alloc (.cells #[.string ⟨#[]⟩, .int .i64 0, .int .u32 0, .int .u32 0, .bool false, .int .i64 0, .int .i64 0, .slice none 0 0, .int .i64 0, .int .u32 0, .int .u32 0, .bool false, .int .i64 0, .int .i64 0, .slice none 0 0, .slice none 0 0, .slice none 0 0, .int .i64 0] 62)) A n c B bs (hr.below (hz0.mono hB)) (by simp; omega) hn hc hs hb
  have hx0' : Blk (w.alloc (.cells #[.string ⟨#[]⟩, .int .i64 0, .int .u32 0, .int .u32 0, .bool false, .int .i64 0, .int .i64 0, .slice none 0 0, .int .i64 0, .int .u32 0, .int .u32 0, .bool false, .int .i64 0, .int .i64 0, .slice none 0 0, .slice none 0 0, .slice none 0 0, .int .i64 0] 62)) w.heap.size 62 zl.toArray := by rw [← hzl]; exact hx0
  have hbl : bs.length = n := by have := hr.1; simpa using this
  have hno := fun (W : World) (S : Nat → Prop) => noL_cells W S
  rw [hzl] at hno
  obtain ⟨W0, hW0⟩ : ∃ W, w.alloc (.cells #[.string ⟨#[]⟩, .int .i64 0, .int .u32 0, .int .u32 0, .bool false, .int .i64 0, .int .i64 0, .slice none 0 0, .int .i64 0, .int .u32 0, .int .u32 0, .bool false, .int .i64 0, .int .i64 0, .slice none 0 0, .slice none 0 0, .slice none 0 0, .int .i64 0] 62) = W := ⟨_, rfl⟩
  have hsz0 : W0.heap.size = w.heap.size + 1 := by rw [← hW0]; simp
  rw [hW0] at hrd hz0 hx0'
  have HW0 := Lib.hid hW0; have HZ0 := Lib.hid hz0; have HX0 := Lib.hid hx0'; have HQV := Lib.hid hzl; have HQLEN := Lib.hid hzlen; have HQONE := Lib.hid hzone; have HNO := Lib.hid hno
  have hlr : ∀ l r, lawR bs = some (l, r) → r.length ≤ n := fun l r h => by have := short_law _ _ _ h; omega
  clear hr hb hx0 hx0' hz0 hW0 hzl hzlen hzone hno
  unfold getL
  cases hw : lawR bs with
  | none =>
    rw [hw] at hrd
    have HRD := Lib.hid hrd
    clear hrd hlr hw
    go_enter Tryz.func21, Tryz.ntmps21
    go_wp2_with fail
    rw [HW0.out]
    refine HRD.out.mono ?_
    rintro e w1 ⟨hb1, rfl⟩
    have x1 := (HX0.out.below hb1 (by omega)).alloc (.cells #[.string ⟨#[]⟩, .int .i64 0, .int .u32 0, .int .u32 0, .bool false, .int .i64 0, .int .i64 0, .slice none 0 0, .int .i64 0, .int .u32 0, .int .u32 0, .bool false, .int .i64 0, .int .i64 0, .slice none 0 0, .slice none 0 0, .slice none 0 0, .int .i64 0] 62)
    have y1 := Blk.new w1 62 #[.string ⟨#[]⟩, .int .i64 0, .int .u32 0, .int .u32 0, .bool false, .int .i64 0, .int .i64 0, .slice none 0 0, .int .i64 0, .int .u32 0, .int .u32 0, .bool false, .int .i64 0, .int .i64 0, .slice none 0 0, .slice none 0 0, .slice none 0 0, .int .i64 0]
    have z1 := (HZ0.out.trans (hb1.mono (by omega))).alloc (by have := hb1.size; omega) (.cells #[.string ⟨#[]⟩, .int .i64 0, .int .u32 0, .int .u32 0, .bool false, .int .i64 0, .int .i64 0, .slice none 0 0, .int .i64 0, .int .u32 0, .int .u32 0, .bool false, .int .i64 0, .int .i64 0, .slice none 0 0, .slice none 0 0, .slice none 0 0, .int .i64 0] 62)
    have hs1 := hb1.size
    have y1' : Blk (w1.alloc (.cells #[.string ⟨#[]⟩, .int .i64 0, .int .u32 0, .int .u32 0, .bool false, .int .i64 0, .int .i64 0, .slice none 0 0, .int .i64 0, .int .u32 0, .int .u32 0, .bool false, .int .i64 0, .int .i64 0, .slice none 0 0, .slice none 0 0, .slice none 0 0, .int .i64 0] 62)) w1.heap.size 62 zl.toArray := by rw [← HQV.out]; exact y1
    have hsr := Chg.setRow (w1.alloc (.cells #[.string ⟨#[]⟩, .int .i64 0, .int .u32 0, .int .u32 0, .bool false, .int .i64 0, .int .i64 0, .slice none 0 0, .int .i64 0, .int .u32 0, .int .u32 0, .bool false, .int .i64 0, .int .i64 0, .slice none 0 0, .slice none 0 0, .slice none 0 0, .int .i64 0] 62)) w1.heap.size zl.toArray
    have x2 := x1.chg hsr (by simp; omega)
    have z2 := z1.trans (hsr.below (by simp; omega) (by simp; omega))
    have x3 := x2.setRow zl.toArray
    have hs3 := Chg.setRow ((w1.alloc (.cells #[.string ⟨#[]⟩, .int .i64 0, .int .u32 0, .int .u32 0, .bool false, .int .i64 0, .int .i64 0, .slice none 0 0, .int .i64 0, .int .u32 0, .int .u32 0, .bool false, .int .i64 0, .int .i64 0, .slice none 0 0, .slice none 0 0, .slice none 0 0, .int .i64 0] 62)).setRow w1.heap.size zl.toArray) w.heap.size zl.toArray
    have z3 := z2.trans (hs3.below (by simp) (by have := z2.size; exact this))
    have Y1 := Lib.hid y1'; have X2 := Lib.hid x2; have X3 := Lib.hid x3; have Z3 := Lib.hid z3
    rw [HQV.out]
    clear x1 y1 y1' z1 hsr x2 z2 x3 hs3 z3 hb1
    go_wp2_with (first | (refine law_store rfl _ _ rfl _ rfl zl zl rfl HQLEN.out HQONE.out Y1.out HQLEN.out ?_; simp only [Act.put]) | (refine law_store rfl _ _ rfl _ rfl zeroL zl rfl rfl (by decide) X2.out HQLEN.out ?_; rw [HQV.out]; simp only [Act.put]))
    refine bodyPost_ret (results_lawT Tryz.results21 _ _ _ _ rfl X3.out HQLEN.out) rfl ⟨zl, rfl, HNO.out _ _, Z3.out⟩
  | some q =>
    obtain ⟨l, r⟩ := q
    rw [hw] at hrd
    have hle := hlr l r hw
    show Calls _ _ _ _ (GivesL w (if lawOk l then (l, bs.length - r.length, 0) else (noL, 0, 17)))
    rw [hbl]
    obtain ⟨res, hres⟩ : ∃ res, (if lawOk l then (l, n - r.length, 0) else (noL, 0, 17) : Lw × Nat × Int) = res := ⟨_, rfl⟩
    rw [hres]
    have HRD := Lib.hid hrd; have HRES := Lib.hid hres
    clear hrd hlr hw hbl hres
    go_enter Tryz.func21, Tryz.ntmps21
    go_wp2_with fail
    rw [HW0.out]
    refine HRD.out.mono ?_
    rintro e w1 ⟨hb1, cs, rfl, hlf, hnm⟩
    obtain ⟨hlen, hone⟩ := hlf.all
    have hs1 := hb1.size
    have x1 := (HX0.out.below hb1 (by omega)).alloc (.cells #[.string ⟨#[]⟩, .int .i64 0, .int .u32 0, .int .u32 0, .bool false, .int .i64 0, .int .i64 0, .slice none 0 0, .int .i64 0, .int .u32 0, .int .u32 0, .bool false, .int .i64 0, .int .i64 0, .slice none 0 0, .slice none 0 0, .slice none 0 0, .int .i64 0] 62)
    have y1 := Blk.new w1 62 #[.string ⟨#[]⟩, .int .i64 0, .int .u32 0, .int .u32 0, .bool false, .int .i64 0, .int .i64 0, .slice none 0 0, .int .i64 0, .int .u32 0, .int .u32 0, .bool false, .int .i64 0, .int .i64 0, .slice none 0 0, .slice none 0 0, .slice none 0 0, .int .i64 0]
    have z1 := (HZ0.out.trans (hb1.mono (by omega))).alloc (by omega) (.cells #[.string ⟨#[]⟩, .int .i64 0, .int .u32 0, .int .u32 0, .bool false, .int .i64 0, .int .i64 0, .slice none 0 0, .int .i64 0, .int .u32 0, .int .u32 0, .bool false, .int .i64 0, .int .i64 0, .slice none 0 0, .slice none 0 0, .slice none 0 0, .int .i64 0] 62)
    have y1' : Blk (w1.alloc (.cells #[.string ⟨#[]⟩, .int .i64 0, .int .u32 0, .int .u32 0, .bool false, .int .i64 0, .int .i64 0, .slice none 0 0, .int .i64 0, .int .u32 0, .int .u32 0, .bool false, .int .i64 0, .int .i64 0, .slice none 0 0, .slice none 0 0, .slice none 0 0, .int .i64 0] 62)) w1.heap.size 62 zl.toArray := by rw [← HQV.out]; exact y1
    have hsr := Chg.setRow (w1.alloc (.cells #[.string ⟨#[]⟩, .int .i64 0, .int .u32 0, .int .u32 0, .bool false, .int .i64 0, .int .i64 0, .slice none 0 0, .int .i64 0, .int .u32 0, .int .u32 0, .bool false, .int .i64 0, .int .i64 0, .slice none 0 0, .slice none 0 0, .slice none 0 0, .int .i64 0] 62)) w1.heap.size cs.toArray
    have x2 := x1.chg hsr (by simp; omega)
    have y2 := y1'.setRow cs.toArray
    have z2 := z1.trans (hsr.below (by simp; omega) (by simp; omega))
    have l2 := (hlf.chg (S' := fun b => W0.heap.size ≤ b ∧ b < w1.heap.size) ((Chg.refl [] w1).alloc (.cells #[.string ⟨#[]⟩, .int .i64 0, .int .u32 0, .int .u32 0, .bool false, .int .i64 0, .int .i64 0, .slice none 0 0, .int .i64 0, .int .u32 0, .int .u32 0, .bool false, .int .i64 0, .int .i64 0, .slice none 0 0, .slice none 0 0, .slice none 0 0, .int .i64 0] 62)) (fun b hb => ⟨hb.2, by simp⟩) (fun b hb => hb)).chg (S' := fun b => W0.heap.size ≤ b ∧ b < w1.heap.size) hsr (fun b hb => ⟨by simp; omega, by simp; omega⟩) (fun b hb => hb)
    obtain ⟨W2, hW2⟩ : ∃ W, (w1.alloc (.cells #[.string ⟨#[]⟩, .int .i64 0, .int .u32 0, .int .u32 0, .bool false, .int .i64 0, .int .i64 0, .slice none 0 0, .int .i64 0, .int .u32 0, .int .u32 0, .bool false, .int .i64 0, .int .i64 0, .slice none 0 0, .slice none 0 0, .slice none 0 0, .int .i64 0] 62)).setRow w1.heap.size cs.toArray = W := ⟨_, rfl⟩
    have hsz2 : W2.heap.size = w1.heap.size + 1 := by rw [← hW2]; simp
    have y2e := y2
    rw [hW2] at x2 y2 z2 l2
    have hck := lawCheck_any W2 W2.heap.size l cs (l2.toC (fun b hb => by omega)) (Nat.le_refl _) (by unfold maxLen; omega)
    have HLEN := Lib.hid hlen; have HONE := Lib.hid hone; have Y1 := Lib.hid y1'; have Y2E := Lib.hid y2e; have X2 := Lib.hid x2; have Y2 := Lib.hid y2; have Z2 := Lib.hid z2; have L2 := Lib.hid l2; have HW2 := Lib.hid hW2; have HCK := Lib.hid hck
    clear hb1 hlf hlen hone x1 y1 z1 y1' hsr x2 y2 y2e z2 l2 hW2 hck hnm
    go_wp2_with (first | (refine law_store rfl _ _ rfl _ rfl cs zl rfl HLEN.out HONE.out Y1.out HQLEN.out ?_; simp only [Act.put]) | (refine law_load rfl _ rfl _ rfl _ HLEN.out Y2E.out ?_; simp only [Act.put, List.setIfInBounds_toArray, List.set_cons_zero, List.set_cons_succ]))
    rw [HW2.out]
    refine HCK.out.mono ?_
    rintro e w3 ⟨rfl, hb3⟩
    have hs3 := hb3.size
    have x3 := X2.out.below hb3 (by omega)
    have y3 := Y2.out.below hb3 (by omega)
    have z3 := Z2.out.trans (hb3.mono (by omega))
    have l3 := L2.out.keep (w' := w3) (S' := fun b => W0.heap.size ≤ b ∧ b < w1.heap.size) (fun b hb => hb) (fun q hq => hb3.cell (by omega))
    have X3 := Lib.hid x3; have Y3 := Lib.hid y3; have Z3 := Lib.hid z3; have L3 := Lib.hid l3
    clear hb3 x3 y3 z3 l3 HW2 HCK X2 Y2 Z2 L2 Y1 Y2E
    cases h0 : lawOk l with
    | false =>
      have he := lawE_no h0
      have hne : ((17 : Int) != 0) = true := by decide
      have hres : res = (noL, 0, 17) := by rw [← HRES.out, h0]; rfl
      clear HRES
      subst hres
      rw [he]
      have x4 := X3.out.setRow zl.toArray
      have z4 := Z3.out.trans ((Chg.setRow w3 w.heap.size zl.toArray).below (by simp) Z3.out.size)
      have X4 := Lib.hid x4; have Z4 := Lib.hid z4
      clear x4 z4 he h0
      go_wp2_with (refine law_store rfl _ _ rfl _ rfl zeroL zl rfl rfl (by decide) X3.out HQLEN.out ?_; rw [HQV.out]; simp only [Act.put])
      refine bodyPost_ret (results_lawT Tryz.results21 _ _ _ _ rfl X4.out HQLEN.out) rfl ⟨zl, rfl, HNO.out _ _, Z4.out⟩
    | true =>
      have he := lawE_yes h0
      have hres : res = (l, n - r.length, 0) := by rw [← HRES.out, h0]; rfl
      clear HRES
      subst hres
      rw [he]
      have hsr := Chg.setRow w3 w.heap.size cs.toArray
      have x4 := X3.out.setRow cs.toArray
      have z4 := Z3.out.trans (hsr.below (by simp) Z3.out.size)
      have l4 := L3.out.chg (S' := fun b => w.heap.size ≤ b ∧ b < (w3.setRow w.heap.size cs.toArray).heap.size) hsr (fun b hb => ⟨by omega, by simp; omega⟩) (fun b hb => ⟨by omega, by simp; omega⟩)
      have hsub : (n : Int) - (r.length : Int) = ((n - r.length : Nat) : Int) := by omega
      have X4 := Lib.hid x4; have Z4 := Lib.hid z4; have L4 := Lib.hid l4; have HSUB := Lib.hid hsub
      unfold maxLen at hc
      clear x4 z4 l4 hsr he h0 hsub
      go_wp2_with (first | (refine law_load rfl _ rfl _ rfl _ HLEN.out Y3.out ?_; simp only [Act.put, List.setIfInBounds_toArray, List.set_cons_zero, List.set_cons_succ]) | (refine law_store rfl _ _ rfl _ rfl cs zl rfl HLEN.out HONE.out X3.out HQLEN.out ?_; simp only [Act.put]))
      refine bodyPost_ret (results_lawT Tryz.results21 _ _ _ _ rfl X4.out HLEN.out) rfl ⟨cs, ?_, L4.out, Z4.out⟩
      rw [← HSUB.out]; rfl
end Go.Proofs.YtmepaeahchiglaaGreatDoor
