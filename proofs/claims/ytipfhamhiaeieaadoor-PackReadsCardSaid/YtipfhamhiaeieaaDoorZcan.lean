/-
  layer 43: the program's GetLaw. Conditions: bytes that can be read.
-/
import Derived.Test.YtipfhamhiaeieaaDoorZcPkLv
import Derived.Test.YtipfhamhiaeieaaDoorZcPkLc
import Derived.Test.YtipfhamhiaeieaaDoorZcak
import Derived.Test.YtipfhamhiaeieaaDoorZcam
namespace Go.Proofs.YtipfhamhiaeieaaDoor
open Go.RowKit Go.Lib

/-- A law of nothing. -/
def noL : Lw := ⟨⟨#[]⟩, .mk 0 (0, 0) false 0 0 [], .mk 0 (0, 0) false 0 0 [], [], [], 0⟩
theorem noL_cells (w : World) (S : Nat → Prop) : LawF w S noL zeroL :=
  ⟨patL 0 (0, 0) false 0 0 (.slice none 0 0), patL 0 (0, 0) false 0 0 (.slice none 0 0), none, 0, none, 0, rfl, patF_leaf w S 0 (0, 0) false 0 0 (by unfold ok32 is32; decide), patF_leaf w S 0 (0, 0) false 0 0 (by unfold ok32 is32; decide), ⟨rfl, fun h => absurd h (Nat.lt_irrefl _)⟩, ⟨rfl, fun h => absurd h (Nat.lt_irrefl _)⟩, (fun s hs => by cases hs), (fun s hs => by cases hs), by unfold maxLen; decide, by unfold maxLen; decide⟩
/-- What GetLaw returns: the law, how many bytes it has, the error. -/
def getL (bs : List Nat) : Lw × Nat × Int := match lawR bs with
  | none => (noL, 0, 10)
  | some (l, r) => if lawOk l then (l, bs.length - r.length, 0) else (noL, 0, 17)
def GivesL (w : World) (x : Lw × Nat × Int) (e : Ending) (w' : World) : Prop := ∃ cs, e = .returned (.tuple #[.agg cs.toArray, .int .i64 x.2.1, .int .i64 x.2.2]) ∧ LawF w' (fun b => w.heap.size ≤ b ∧ b < w'.heap.size) x.1 cs ∧ Below w.heap.size w w'
def Short {α : Type} (get : Rdr α) : Prop := ∀ b x r, get b = some (x, r) → r.length ≤ b.length
theorem short_ret {α : Type} (x : α) : Short (fun r => some (x, r)) := fun b y r h => by
  injection h with h
  obtain ⟨_, rfl⟩ := Prod.mk.inj h
  exact Nat.le_refl _
theorem short_no {α : Type} : Short (fun _ => (none : Option (α × List Nat))) := fun b y r h => by cases h
theorem short_then {α β : Type} {g : Rdr α} {f : α → Rdr β} (h1 : Short g) (h2 : ∀ x, Short (f x)) : Short (thenR g f) := fun b y r h => by
  obtain ⟨x, s, e1, e2⟩ := thenR_out h
  exact Nat.le_trans (h2 x _ _ _ e2) (h1 _ _ _ e1)
theorem short_readK : ∀ f k acc, Short (readK f k acc)
  | 0, k, acc => fun b x r h => by cases h
  | f + 1, k, acc => fun b x r h => by
    cases b with
    | nil => cases h
    | cons b l =>
      have h' : (if 128 ≤ b then readK f (k + 1) (acc + 128 ^ k * (b % 128)) l else if (b = 0 ∧ 0 < k) ∨ 4294967296 ≤ acc + 128 ^ k * b then none else some (acc + 128 ^ k * b, l)) = some (x, r) := h
      rw [List.length_cons]
      split at h'
      · have := short_readK f _ _ _ _ _ h'; omega
      · split at h'
        · cases h'
        · injection h' with h'
          obtain ⟨_, rfl⟩ := Prod.mk.inj h'
          omega
theorem short_num : Short readN := short_readK _ _ _
theorem short_count : Short countR := short_then short_num fun n b x r h => by
  have h' : (if n ≤ b.length then some (n, b) else none) = some (x, r) := h
  split at h'
  · injection h' with h'
    obtain ⟨_, rfl⟩ := Prod.mk.inj h'
    exact Nat.le_refl _
  · cases h'
theorem short_snd : Short sndR := short_then short_num fun _ => short_then short_num fun _ => short_ret _
theorem short_flag : Short flagR := short_then short_num fun n b x r h => by
  have h' : (if 1 < n then none else some (decide (n = 1), b)) = some (x, r) := h
  split at h'
  · cases h'
  · injection h' with h'
    obtain ⟨_, rfl⟩ := Prod.mk.inj h'
    exact Nat.le_refl _
theorem short_many {α : Type} {get : Rdr α} (h : Short get) : ∀ n, Short (manyR get n)
  | 0 => short_ret _
  | n + 1 => short_then h fun _ => short_then (short_many h n) fun _ => short_ret _
theorem short_some {α : Type} {get : Rdr α} (h : Short get) : Short (someR get) := short_then short_count fun n => short_many h n
theorem short_manyS {get : Nat → Rdr (Pt × Nat)} (h : ∀ l, Short (get l)) : ∀ n l, Short (manyS get n l)
  | 0, _ => short_ret _
  | n + 1, l => short_then (h l) fun _ => short_then (short_manyS h n _) fun _ => short_ret _
theorem short_node {get : Nat → Rdr (Pt × Nat)} (h : ∀ l, Short (get l)) (left : Nat) : Short (nodeR get left) := short_then short_num fun k => by
  by_cases k1 : k = 1
  · rw [if_pos k1]; exact short_then short_snd fun _ => short_then short_flag fun _ => short_ret _
  · rw [if_neg k1]
    by_cases k3 : k = 3 ∨ k = 4
    · rw [if_pos k3]; exact short_then short_count fun n => short_then (short_manyS h n left) fun _ => short_ret _
    · rw [if_neg k3]
      by_cases k5 : k = 5
      · rw [if_pos k5]; exact short_then short_num fun _ => short_then short_num fun _ => short_then (short_manyS h 1 left) fun _ => short_ret _
      · rw [if_neg k5]; exact short_ret _
theorem short_pat : ∀ f left, Short (patR f left)
  | 0, _ => short_no
  | f + 1, 0 => fun b x r h => by rw [patR_zero] at h; cases h
  | f + 1, left + 1 => fun b x r h => by rw [patR_succ] at h; exact short_node (short_pat f) left b x r h
theorem short_text : Short textR := short_then short_count fun n b x r h => by
  injection h with h
  obtain ⟨_, rfl⟩ := Prod.mk.inj h
  rw [List.length_drop]; omega
theorem short_out : Short outR := short_then short_num fun _ => short_then short_num fun _ => short_then short_snd fun _ => short_then short_num fun _ => short_then short_num fun _ => short_ret _
theorem short_side : Short sideR := short_then (short_pat _ _) fun _ => short_ret _
theorem short_law : Short lawR := short_then short_text fun _ => short_then short_side fun _ => short_then short_side fun _ => short_then (short_some short_snd) fun _ => short_then (short_some short_out) fun _ => short_then short_num fun _ => short_ret _
theorem results_lawT {fn : Func} {p q r : Tmp} (h : fn.results = #[.cell p 31, .tmp q, .tmp r]) (tmps : Array Value) (w : World) (a : Nat) (cs : List Value)
    (hp : tmps.getD p undef = wptr a) (ha : Blk w a 31 cs.toArray) (hlen : cs.length = 18) :
    (results fn tmps).run Tryd.prog w = .ok (.tuple #[.agg cs.toArray, tmps.getD q undef, tmps.getD r undef]) w := by
  have e1 := law_run ha hlen
  have hp' : tmps[p]?.getD undef = wptr a := by simpa using hp
  simp [results, h, hp', asAddr, e1]
set_option linter.unusedSimpArgs false in
set_option maxRecDepth 20000 in
set_option maxHeartbeats 4000000 in
theorem getLaw_any (w : World) (A : Option Addr) (n c B : Nat) (bs : List Nat) (hr : Reads w B 1 A n (bs.map bv)) (hB : B ≤ w.heap.size) (hn : n ≤ c) (hc : c ≤ maxLen) (hs : n ≤ 1073741824) (hb : ∀ b ∈ bs, b < 256) :
    Calls Tryd.prog 25 #[.slice A n c] w (GivesL w (getL bs)) := by
  obtain ⟨zl, hzl, hzlen, hzone⟩ : ∃ zl : List Value, zeroL = zl ∧ zl.length = 18 ∧ ∀ u ∈ zl, u.oneCell' = true := ⟨zeroL, rfl, rfl, by decide⟩
  have hx0 := Blk.new w 31 #[.string ⟨#[]⟩, .int .i64 0, .int .u32 0, .int .u32 0, .bool false, .int .i64 0, .int .i64 0, .slice none 0 0, .int .i64 0, .int .u32 0, .int .u32 0, .bool false, .int .i64 0, .int .i64 0, .slice none 0 0, .slice none 0 0, .slice none 0 0, .int .i64 0]
  have hz0 := (Below.refl w.heap.size w).alloc (Nat.le_refl _) (.cells #[.string ⟨#[]⟩, .int .i64 0, .int .u32 0, .int .u32 0, .bool false, .int .i64 0, .int .i64 0, .slice none 0 0, .int .i64 0, .int .u32 0, .int .u32 0, .bool false, .int .i64 0, .int .i64 0, .slice none 0 0, .slice none 0 0, .slice none 0 0, .int .i64 0] 31)
  have hrd := readL_any (w.alloc (.cells #[.string ⟨#[]⟩, .int .i64 0, .int .u32 0, .int .u32 0, .bool false, .int .i64 0, .int .i64 0, .slice none 0 0, .int .i64 0, .int .u32 0, .int .u32 0, .bool false, .int .i64 0, .int .i64 0, .slice none 0 0, .slice none 0 0, .slice none 0 0, .int .i64 0] 31)) A n c B bs (hr.below (hz0.mono hB)) (by simp; omega) hn hc hs hb
  have hx0' : Blk (w.alloc (.cells #[.string ⟨#[]⟩, .int .i64 0, .int .u32 0, .int .u32 0, .bool false, .int .i64 0, .int .i64 0, .slice none 0 0, .int .i64 0, .int .u32 0, .int .u32 0, .bool false, .int .i64 0, .int .i64 0, .slice none 0 0, .slice none 0 0, .slice none 0 0, .int .i64 0] 31)) w.heap.size 31 zl.toArray := by rw [← hzl]; exact hx0
  have hbl : bs.length = n := by have := hr.1; simpa using this
  have hno := fun (W : World) (S : Nat → Prop) => noL_cells W S
  rw [hzl] at hno
  obtain ⟨W0, hW0⟩ : ∃ W, w.alloc (.cells #[.string ⟨#[]⟩, .int .i64 0, .int .u32 0, .int .u32 0, .bool false, .int .i64 0, .int .i64 0, .slice none 0 0, .int .i64 0, .int .u32 0, .int .u32 0, .bool false, .int .i64 0, .int .i64 0, .slice none 0 0, .slice none 0 0, .slice none 0 0, .int .i64 0] 31) = W := ⟨_, rfl⟩
  have hsz0 : W0.heap.size = w.heap.size + 1 := by rw [← hW0]; simp
  rw [hW0] at hrd hz0 hx0'
  have HW0 := Lib.hid hW0; have HZ0 := Lib.hid hz0; have HX0 := Lib.hid hx0'; have HQV := Lib.hid hzl; have HQLEN := Lib.hid hzlen; have HQONE := Lib.hid hzone; have HNO := Lib.hid hno
  have hlr : ∀ l r, lawR bs = some (l, r) → r.length ≤ n := fun l r h => by have := short_law _ _ _ h; omega
  clear hr hb hx0 hx0' hz0 hW0 hzl hzlen hzone hno
  unfold getL
  cases hw : lawR bs with
  | none =>
    rw [hw] at hrd
    have HRD := Lib.hid hrd
    clear hrd hlr hw
    go_enter Tryd.func25, Tryd.ntmps25
    go_wp2_with fail
    rw [HW0.out]
    refine HRD.out.mono ?_
    rintro e w1 ⟨hb1, rfl⟩
    have x1 := (HX0.out.below hb1 (by omega)).alloc (.cells #[.string ⟨#[]⟩, .int .i64 0, .int .u32 0, .int .u32 0, .bool false, .int .i64 0, .int .i64 0, .slice none 0 0, .int .i64 0, .int .u32 0, .int .u32 0, .bool false, .int .i64 0, .int .i64 0, .slice none 0 0, .slice none 0 0, .slice none 0 0, .int .i64 0] 31)
    have y1 := Blk.new w1 31 #[.string ⟨#[]⟩, .int .i64 0, .int .u32 0, .int .u32 0, .bool false, .int .i64 0, .int .i64 0, .slice none 0 0, .int .i64 0, .int .u32 0, .int .u32 0, .bool false, .int .i64 0, .int .i64 0, .slice none 0 0, .slice none 0 0, .slice none 0 0, .int .i64 0]
    have z1 := (HZ0.out.trans (hb1.mono (by omega))).alloc (by have := hb1.size; omega) (.cells #[.string ⟨#[]⟩, .int .i64 0, .int .u32 0, .int .u32 0, .bool false, .int .i64 0, .int .i64 0, .slice none 0 0, .int .i64 0, .int .u32 0, .int .u32 0, .bool false, .int .i64 0, .int .i64 0, .slice none 0 0, .slice none 0 0, .slice none 0 0, .int .i64 0] 31)
    have hs1 := hb1.size
    have y1' : Blk (w1.alloc (.cells #[.string ⟨#[]⟩, .int .i64 0, .int .u32 0, .int .u32 0, .bool false, .int .i64 0, .int .i64 0, .slice none 0 0, .int .i64 0, .int .u32 0, .int .u32 0, .bool false, .int .i64 0, .int .i64 0, .slice none 0 0, .slice none 0 0, .slice none 0 0, .int .i64 0] 31)) w1.heap.size 31 zl.toArray := by rw [← HQV.out]; exact y1
    have hsr := Chg.setRow (w1.alloc (.cells #[.string ⟨#[]⟩, .int .i64 0, .int .u32 0, .int .u32 0, .bool false, .int .i64 0, .int .i64 0, .slice none 0 0, .int .i64 0, .int .u32 0, .int .u32 0, .bool false, .int .i64 0, .int .i64 0, .slice none 0 0, .slice none 0 0, .slice none 0 0, .int .i64 0] 31)) w1.heap.size zl.toArray
    have x2 := x1.chg hsr (by simp; omega)
    have z2 := z1.trans (hsr.below (by simp; omega) (by simp; omega))
    have x3 := x2.setRow zl.toArray
    have hs3 := Chg.setRow ((w1.alloc (.cells #[.string ⟨#[]⟩, .int .i64 0, .int .u32 0, .int .u32 0, .bool false, .int .i64 0, .int .i64 0, .slice none 0 0, .int .i64 0, .int .u32 0, .int .u32 0, .bool false, .int .i64 0, .int .i64 0, .slice none 0 0, .slice none 0 0, .slice none 0 0, .int .i64 0] 31)).setRow w1.heap.size zl.toArray) w.heap.size zl.toArray
    have z3 := z2.trans (hs3.below (by simp) (by have := z2.size; exact this))
    have Y1 := Lib.hid y1'; have X2 := Lib.hid x2; have X3 := Lib.hid x3; have Z3 := Lib.hid z3
    rw [HQV.out]
    clear x1 y1 y1' z1 hsr x2 z2 x3 hs3 z3 hb1
    go_wp2_with (first | (refine law_store rfl _ _ rfl _ rfl zl zl rfl HQLEN.out HQONE.out Y1.out HQLEN.out ?_; simp only [Act.put]) | (refine law_store rfl _ _ rfl _ rfl zeroL zl rfl rfl (by decide) X2.out HQLEN.out ?_; rw [HQV.out]; simp only [Act.put]))
    refine bodyPost_ret (results_lawT Tryd.results25 _ _ _ _ rfl X3.out HQLEN.out) rfl ⟨zl, rfl, HNO.out _ _, Z3.out⟩
  | some q =>
    obtain ⟨l, r⟩ := q
    rw [hw] at hrd
    have hle := hlr l r hw
    show Calls _ _ _ _ (GivesL w (if lawOk l then (l, bs.length - r.length, 0) else (noL, 0, 17)))
    rw [hbl]
    obtain ⟨res, hres⟩ : ∃ res, (if lawOk l then (l, n - r.length, 0) else (noL, 0, 17) : Lw × Nat × Int) = res := ⟨_, rfl⟩
    rw [hres]
    have HRD := Lib.hid hrd; have HRES := Lib.hid hres
    clear hrd hlr hw hbl hres
    go_enter Tryd.func25, Tryd.ntmps25
    go_wp2_with fail
    rw [HW0.out]
    refine HRD.out.mono ?_
    rintro e w1 ⟨hb1, cs, rfl, hlf, hnm⟩
    obtain ⟨hlen, hone⟩ := hlf.all
    have hs1 := hb1.size
    have x1 := (HX0.out.below hb1 (by omega)).alloc (.cells #[.string ⟨#[]⟩, .int .i64 0, .int .u32 0, .int .u32 0, .bool false, .int .i64 0, .int .i64 0, .slice none 0 0, .int .i64 0, .int .u32 0, .int .u32 0, .bool false, .int .i64 0, .int .i64 0, .slice none 0 0, .slice none 0 0, .slice none 0 0, .int .i64 0] 31)
    have y1 := Blk.new w1 31 #[.string ⟨#[]⟩, .int .i64 0, .int .u32 0, .int .u32 0, .bool false, .int .i64 0, .int .i64 0, .slice none 0 0, .int .i64 0, .int .u32 0, .int .u32 0, .bool false, .int .i64 0, .int .i64 0, .slice none 0 0, .slice none 0 0, .slice none 0 0, .int .i64 0]
    have z1 := (HZ0.out.trans (hb1.mono (by omega))).alloc (by omega) (.cells #[.string ⟨#[]⟩, .int .i64 0, .int .u32 0, .int .u32 0, .bool false, .int .i64 0, .int .i64 0, .slice none 0 0, .int .i64 0, .int .u32 0, .int .u32 0, .bool false, .int .i64 0, .int .i64 0, .slice none 0 0, .slice none 0 0, .slice none 0 0, .int .i64 0] 31)
    have y1' : Blk (w1.alloc (.cells #[.string ⟨#[]⟩, .int .i64 0, .int .u32 0, .int .u32 0, .bool false, .int .i64 0, .int .i64 0, .slice none 0 0, .int .i64 0, .int .u32 0, .int .u32 0, .bool false, .int .i64 0, .int .i64 0, .slice none 0 0, .slice none 0 0, .slice none 0 0, .int .i64 0] 31)) w1.heap.size 31 zl.toArray := by rw [← HQV.out]; exact y1
    have hsr := Chg.setRow (w1.alloc (.cells #[.string ⟨#[]⟩, .int .i64 0, .int .u32 0, .int .u32 0, .bool false, .int .i64 0, .int .i64 0, .slice none 0 0, .int .i64 0, .int .u32 0, .int .u32 0, .bool false, .int .i64 0, .int .i64 0, .slice none 0 0, .slice none 0 0, .slice none 0 0, .int .i64 0] 31)) w1.heap.size cs.toArray
    have x2 := x1.chg hsr (by simp; omega)
    have y2 := y1'.setRow cs.toArray
    have z2 := z1.trans (hsr.below (by simp; omega) (by simp; omega))
    have l2 := (hlf.chg (S' := fun b => W0.heap.size ≤ b ∧ b < w1.heap.size) ((Chg.refl [] w1).alloc (.cells #[.string ⟨#[]⟩, .int .i64 0, .int .u32 0, .int .u32 0, .bool false, .int .i64 0, .int .i64 0, .slice none 0 0, .int .i64 0, .int .u32 0, .int .u32 0, .bool false, .int .i64 0, .int .i64 0, .slice none 0 0, .slice none 0 0, .slice none 0 0, .int .i64 0] 31)) (fun b hb => ⟨hb.2, by simp⟩) (fun b hb => hb)).chg (S' := fun b => W0.heap.size ≤ b ∧ b < w1.heap.size) hsr (fun b hb => ⟨by simp; omega, by simp; omega⟩) (fun b hb => hb)
    obtain ⟨W2, hW2⟩ : ∃ W, (w1.alloc (.cells #[.string ⟨#[]⟩, .int .i64 0, .int .u32 0, .int .u32 0, .bool false, .int .i64 0, .int .i64 0, .slice none 0 0, .int .i64 0, .int .u32 0, .int .u32 0, .bool false, .int .i64 0, .int .i64 0, .slice none 0 0, .slice none 0 0, .slice none 0 0, .int .i64 0] 31)).setRow w1.heap.size cs.toArray = W := ⟨_, rfl⟩
    have hsz2 : W2.heap.size = w1.heap.size + 1 := by rw [← hW2]; simp
    have y2e := y2
    rw [hW2] at x2 y2 z2 l2
    have hck := lawCheck_any W2 W2.heap.size l cs (l2.toC (fun b hb => by omega)) (Nat.le_refl _) (by unfold maxLen; omega)
    have HLEN := Lib.hid hlen; have HONE := Lib.hid hone; have Y1 := Lib.hid y1'; have Y2E := Lib.hid y2e; have X2 := Lib.hid x2; have Y2 := Lib.hid y2; have Z2 := Lib.hid z2; have L2 := Lib.hid l2; have HW2 := Lib.hid hW2; have HCK := Lib.hid hck
    clear hb1 hlf hlen hone x1 y1 z1 y1' hsr x2 y2 y2e z2 l2 hW2 hck hnm
    go_wp2_with (first | (refine law_store rfl _ _ rfl _ rfl cs zl rfl HLEN.out HONE.out Y1.out HQLEN.out ?_; simp only [Act.put]) | (refine law_load rfl _ rfl _ rfl _ HLEN.out Y2E.out ?_; simp only [Act.put, List.setIfInBounds_toArray, List.set_cons_zero, List.set_cons_succ]))
    rw [HW2.out]
    refine HCK.out.mono ?_
    rintro e w3 ⟨rfl, hb3⟩
    have hs3 := hb3.size
    have x3 := X2.out.below hb3 (by omega)
    have y3 := Y2.out.below hb3 (by omega)
    have z3 := Z2.out.trans (hb3.mono (by omega))
    have l3 := L2.out.keep (w' := w3) (S' := fun b => W0.heap.size ≤ b ∧ b < w1.heap.size) (fun b hb => hb) (fun q hq => hb3.cell (by omega))
    have X3 := Lib.hid x3; have Y3 := Lib.hid y3; have Z3 := Lib.hid z3; have L3 := Lib.hid l3
    clear hb3 x3 y3 z3 l3 HW2 HCK X2 Y2 Z2 L2 Y1 Y2E
    cases h0 : lawOk l with
    | false =>
      have he := lawE_no h0
      have hne : ((17 : Int) != 0) = true := by decide
      have hres : res = (noL, 0, 17) := by rw [← HRES.out, h0]; rfl
      clear HRES
      subst hres
      rw [he]
      have x4 := X3.out.setRow zl.toArray
      have z4 := Z3.out.trans ((Chg.setRow w3 w.heap.size zl.toArray).below (by simp) Z3.out.size)
      have X4 := Lib.hid x4; have Z4 := Lib.hid z4
      clear x4 z4 he h0
      go_wp2_with (refine law_store rfl _ _ rfl _ rfl zeroL zl rfl rfl (by decide) X3.out HQLEN.out ?_; rw [HQV.out]; simp only [Act.put])
      refine bodyPost_ret (results_lawT Tryd.results25 _ _ _ _ rfl X4.out HQLEN.out) rfl ⟨zl, rfl, HNO.out _ _, Z4.out⟩
    | true =>
      have he := lawE_yes h0
      have hres : res = (l, n - r.length, 0) := by rw [← HRES.out, h0]; rfl
      clear HRES
      subst hres
      rw [he]
      have hsr := Chg.setRow w3 w.heap.size cs.toArray
      have x4 := X3.out.setRow cs.toArray
      have z4 := Z3.out.trans (hsr.below (by simp) Z3.out.size)
      have l4 := L3.out.chg (S' := fun b => w.heap.size ≤ b ∧ b < (w3.setRow w.heap.size cs.toArray).heap.size) hsr (fun b hb => ⟨by omega, by simp; omega⟩) (fun b hb => ⟨by omega, by simp; omega⟩)
      have hsub : (n : Int) - (r.length : Int) = ((n - r.length : Nat) : Int) := by omega
      have X4 := Lib.hid x4; have Z4 := Lib.hid z4; have L4 := Lib.hid l4; have HSUB := Lib.hid hsub
      unfold maxLen at hc
      clear x4 z4 l4 hsr he h0 hsub
      go_wp2_with (first | (refine law_load rfl _ rfl _ rfl _ HLEN.out Y3.out ?_; simp only [Act.put, List.setIfInBounds_toArray, List.set_cons_zero, List.set_cons_succ]) | (refine law_store rfl _ _ rfl _ rfl cs zl rfl HLEN.out HONE.out X3.out HQLEN.out ?_; simp only [Act.put]))
      refine bodyPost_ret (results_lawT Tryd.results25 _ _ _ _ rfl X4.out HLEN.out) rfl ⟨cs, ?_, L4.out, Z4.out⟩
      rw [← HSUB.out]; rfl
end Go.Proofs.YtipfhamhiaeieaaDoor
namespace Go.Proofs.YtipfhamhiaeieaaDoor
open Go.RowKit Go.Lib

/-- The reference's reader, made. -/
theorem rs_start {w : World} {A : Option Addr} {n c B : Nat} {bs : List Nat} (hr : Reads w B 1 A n (bs.map bv)) (hB : B ≤ w.heap.size) (hn : n ≤ c) (hc : c ≤ maxLen) (hs : n ≤ 1073741824) (hb : ∀ b ∈ bs, b < 256) :
    RS (w.alloc (.cells #[.slice A n c, .int .i64 0, .bool false] 82)) w.heap.size bs 0 false := by
  have hbl : bs.length = n := by have := hr.1; simpa using this
  subst hbl
  exact ⟨A, c, Blk.new w _ _, (hr.more hB).below ((Below.refl _ w).alloc (Nat.le_refl _) _), Nat.zero_le _, hn, hc, hs, hb⟩
set_option maxRecDepth 20000 in
set_option maxHeartbeats 2000000 in
theorem refGetWord_any (w : World) (A : Option Addr) (n c B : Nat) (bs : List Nat) (hr : Reads w B 1 A n (bs.map bv)) (hB : B ≤ w.heap.size) (hn : n ≤ c) (hc : c ≤ maxLen) (hs : n ≤ 1073741824) (hb : ∀ b ∈ bs, b < 256) :
    Calls Tryd.prog 27 #[.slice A n c] w (GivesW w (getW bs)) := by
  have h0 := rs_start hr hB hn hc hs hb
  have hch := (Below.refl w.heap.size w).alloc (Nat.le_refl _) (.cells #[.slice A n c, .int .i64 0, .bool false] 82)
  have hbl : bs.length = n := by have := hr.1; simpa using this
  have hcall := sword_any _ w.heap.size 0 bs false h0
  rw [List.drop_zero] at hcall
  obtain ⟨W0, hW0⟩ : ∃ W, w.alloc (.cells #[.slice A n c, .int .i64 0, .bool false] 82) = W := ⟨_, rfl⟩
  have hsz0 : W0.heap.size = w.heap.size + 1 := by rw [← hW0]; simp
  rw [hW0] at hcall hch
  obtain ⟨res, hres⟩ : ∃ res, getW bs = res := ⟨_, rfl⟩
  rw [hres]
  have HRES := Lib.hid hres; have HC := Lib.hid hcall; have HB0 := Lib.hid hch; have HW0 := Lib.hid hW0
  clear hr h0 hch hcall hW0 hres hb
  go_enter Tryd.func27, Tryd.ntmps27
  go_wp2_with fail
  rw [HW0.out]
  clear HW0
  refine HC.out.mono ?_
  rintro e w1 ⟨ws, v, at', bad', rfl, hww, hok, hc1, hr1, -, hg⟩
  have hgot := hg rfl
  have hww' : w1.ownsRow W0.heap.size 24 2 v ws.length (ws.flatMap sndC) := hww
  obtain ⟨A2, c2, rfl, hl2, hm2⟩ := ownsRow_form hww'
  obtain ⟨A1, c1, ⟨k0, k1, k2⟩, -, -, -, -⟩ := hr1.cells
  have hat := hr1.all.2.1
  have hlt1 := hr1.lt
  have hb1 : Below w.heap.size w w1 := HB0.out.trans (hc1.below (by simp) (by omega))
  have HB1 := Lib.hid hb1; have HWW := Lib.hid hww'; have HOK := Lib.hid hok; have HG := Lib.hid hgot
  clear hww hww' hok hc1 hr1 hg hgot hb1 HC
  cases bad' with
  | true =>
    have hnone : wordR bs = none := by
      have hg := HG.out
      cases hw : wordR bs with
      | none => rfl
      | some q => rw [hw] at hg; exact absurd hg.2.1 (by decide)
    have hres : res = ([], 0, 10) := by rw [← HRES.out]; unfold getW; rw [hnone]
    subst hres
    clear hnone HRES HG
    go_wp2
    go_ret3
    exact ⟨_, rfl, World.ownsRow_nil _ _ _ _, HB1.out⟩
  | false =>
    have hsome : wordR bs = some (ws, bs.drop at') := by
      have hg := HG.out
      cases hw : wordR bs with
      | none => rw [hw] at hg; cases hg
      | some q => obtain ⟨y, r⟩ := q; rw [hw] at hg; obtain ⟨rfl, -, rfl⟩ := hg; rfl
    have hck := refWord_any A2 ws.length c2 w1.heap.size ws w1 (Reads.of_own HWW.out) (Nat.le_refl _) (by omega) HOK.out
    have HCK := Lib.hid hck; have HSOME := Lib.hid hsome
    clear hck hsome HG
    go_wp2_with fail
    refine HCK.out.mono ?_
    rintro e w2 ⟨rfl, hb2⟩
    have k1' := (hb2.cell (p := ⟨w.heap.size, 1, none⟩) (by omega : w.heap.size < w1.heap.size)).trans k1
    have HB2 := Lib.hid hb2
    clear hb2
    by_cases h0 : wordE ws = 0
    · have hres : res = (ws, at', 0) := by
        rw [← HRES.out]; unfold getW; rw [HSOME.out]
        show (if wordE ws = 0 then (ws, bs.length - (bs.drop at').length, 0) else ([], 0, wordE ws)) = _
        rw [if_pos h0, List.length_drop]
        congr 2
        omega
      subst hres
      rw [h0]
      clear HRES HSOME HCK h0
      go_wp2
      go_quiet (fail)
      have hb3 : Below w1.heap.size w1 (w2.drewN nq) := ⟨HB2.out.os, HB2.out.tape, HB2.out.output, HB2.out.size, HB2.out.block⟩
      have HB3 := Lib.hid hb3
      clear hb3
      go_wp2
      go_ret3
      exact ⟨_, rfl, own_mono (own_below' HWW.out HB3.out) (by omega), HB1.out.trans (HB3.out.mono HB1.out.size)⟩
    · have hres : res = ([], 0, wordE ws) := by
        rw [← HRES.out]; unfold getW; rw [HSOME.out]
        show (if wordE ws = 0 then (ws, bs.length - (bs.drop at').length, 0) else ([], 0, wordE ws)) = _
        rw [if_neg h0]
      subst hres
      have hne : (wordE ws != 0) = true := by simpa using h0
      clear HRES HSOME HCK h0
      go_wp2
      go_ret3
      exact ⟨_, rfl, World.ownsRow_nil _ _ _ _, HB1.out.trans (HB2.out.mono HB1.out.size)⟩
end Go.Proofs.YtipfhamhiaeieaaDoor
