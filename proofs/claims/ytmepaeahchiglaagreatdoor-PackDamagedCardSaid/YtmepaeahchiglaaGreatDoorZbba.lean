/-
  layer 43: GetWord of the program. Conditions: bytes that can be read.
-/
import Derived.Test.YtmepaeahchiglaaGreatDoorZbav
import Derived.WalkKit
import Derived.Test.YtmepaeahchiglaaGreatDoorProg
import Derived.Test.YtmepaeahchiglaaGreatDoorZbaa
import Derived.Laws.BitsAllLaws
import Derived.Test.YtmepaeahchiglaaGreatDoorZban
import Derived.Test.YtmepaeahchiglaaGreatDoorZbas
import Derived.Lib.SlBytesConst
namespace Go.Proofs.YtmepaeahchiglaaGreatDoor
open Go.RowKit Go.Lib

/-- What GetWord returns: the word, how many bytes it has, the error. -/
def getW (bs : List Nat) : List Snd × Nat × Int := match wordR bs with
  | none => ([], 0, 10)
  | some (ws, r) => if wordE ws = 0 then (ws, bs.length - r.length, 0) else ([], 0, wordE ws)
def GivesW (w : World) (x : List Snd × Nat × Int) (e : Ending) (w' : World) : Prop := ∃ v, e = .returned (.tuple #[v, .int .i64 x.2.1, .int .i64 x.2.2]) ∧ wordW w.heap.size x.1 w' v ∧ Below w.heap.size w w'
theorem wordR_ok {bs r : List Nat} {ws : List Snd} (hb : ∀ b ∈ bs, b < 256) (h : wordR bs = some (ws, r)) : r.length ≤ bs.length ∧ ∀ s ∈ ws, ok32 s := by
  obtain ⟨e, h1, h2⟩ := canon_word bs ws r hb h
  refine ⟨?_, h2⟩
  rw [e, List.length_append]; omega
set_option maxRecDepth 20000 in
set_option maxHeartbeats 2000000 in
theorem getWord_any (w : World) (A : Option Addr) (n c B : Nat) (bs : List Nat) (hr : Reads w B 1 A n (bs.map bv)) (hB : B ≤ w.heap.size) (hn : n ≤ c) (hc : c ≤ maxLen) (hs : n ≤ 1073741824) (hb : ∀ b ∈ bs, b < 256) :
    Calls Tryz.prog 24 #[.slice A n c] w (GivesW w (getW bs)) := by
  have hrd := readW_any w A n c B bs hr hB hn hc hs hb
  have hbl : bs.length = n := by have := hr.1; simpa using this
  unfold getW
  cases hw : wordR bs with
  | none =>
    rw [hw] at hrd
    clear hr hb
    go_enter Tryz.func24, Tryz.ntmps24
    go_wp2_with fail
    refine hrd.mono ?_
    rintro e w1 ⟨h1, rfl⟩
    have H1 := Lib.hid h1
    clear h1
    go_wp2
    go_ret3
    exact ⟨_, rfl, World.ownsRow_nil _ _ _ _, H1.out⟩
  | some q =>
    obtain ⟨ws, r⟩ := q
    rw [hw] at hrd
    obtain ⟨hle, hok⟩ := wordR_ok hb hw
    have hrn : r.length ≤ n := by omega
    show Calls _ _ _ _ (GivesW w (if wordE ws = 0 then (ws, bs.length - r.length, 0) else ([], 0, wordE ws)))
    rw [hbl]
    have HOK := Lib.hid hok
    clear hr hb hw hok hbl hle
    by_cases h0 : wordE ws = 0
    · rw [if_pos h0]
      have hsub : (n : Int) - (r.length : Int) = ((n - r.length : Nat) : Int) := by omega
      have HSUB := Lib.hid hsub; have H0 := Lib.hid h0
      clear hsub h0
      go_enter Tryz.func24, Tryz.ntmps24
      go_wp2_with fail
      refine hrd.mono ?_
      rintro e w1 ⟨h1, v, rfl, h2⟩
      obtain ⟨A2, c2, rfl, h3, h4⟩ := ownsRow_form h2
      have hck := wordCheck_any A2 ws.length c2 w1.heap.size ws w1 (Reads.of_own h2) (Nat.le_refl _) (by omega) HOK.out
      rw [H0.out] at hck
      have H1 := Lib.hid h1; have H2 := Lib.hid h2
      clear h1 h2
      go_wp2_with fail
      refine hck.mono ?_
      rintro e w2 ⟨rfl, h5⟩
      have H5 := Lib.hid h5
      clear h5
      unfold maxLen at hc
      go_wp2
      go_ret3
      refine ⟨_, by rw [← HSUB.out]; rfl, ?_, H1.out.trans (H5.out.mono H1.out.size)⟩
      exact own_below' H2.out H5.out
    · rw [if_neg h0]
      have hne : (wordE ws != 0) = true := by simpa using h0
      clear h0
      go_enter Tryz.func24, Tryz.ntmps24
      go_wp2_with fail
      refine hrd.mono ?_
      rintro e w1 ⟨h1, v, rfl, h2⟩
      obtain ⟨A2, c2, rfl, h3, h4⟩ := ownsRow_form h2
      have hck := wordCheck_any A2 ws.length c2 w1.heap.size ws w1 (Reads.of_own h2) (Nat.le_refl _) (by omega) HOK.out
      have H1 := Lib.hid h1; have H2 := Lib.hid h2
      clear h1 h2 HOK
      generalize wordE ws = x at *
      go_wp2_with fail
      refine hck.mono ?_
      rintro e w2 ⟨rfl, h5⟩
      have H5 := Lib.hid h5
      clear h5
      go_wp2
      go_ret3
      exact ⟨_, rfl, World.ownsRow_nil _ _ _ _, H1.out.trans (H5.out.mono H1.out.size)⟩
end Go.Proofs.YtmepaeahchiglaaGreatDoor
namespace Go.Proofs.YtmepaeahchiglaaGreatDoor

def crcP : Nat := 3988292384
def crcBit (r : Nat) : Nat := if r % 2 = 1 then (r / 2) ^^^ crcP else r / 2
def crcBits : Nat → Nat → Nat
  | 0, r => r
  | k + 1, r => crcBits k (crcBit r)
def crcByte (r c : Nat) : Nat := crcBits 8 (r ^^^ c)
def crcAll (r : Nat) (b : List Nat) : Nat := b.foldl crcByte r
def ones : Nat := 4294967295
/-- The checksum of bytes. -/
def sumB (b : List Nat) : Nat := ones ^^^ crcAll ones b
theorem crcBit_lt {r : Nat} (h : r < 4294967296) : crcBit r < 4294967296 := by
  unfold crcBit crcP
  split
  · exact Nat.xor_lt_two_pow (n := 32) (by omega) (by decide)
  · omega
theorem crcBits_lt : ∀ (k : Nat) {r : Nat}, r < 4294967296 → crcBits k r < 4294967296
  | 0, _, h => h
  | k + 1, _, h => crcBits_lt k (crcBit_lt h)
theorem crcByte_lt {r c : Nat} (h : r < 4294967296) (hc : c < 256) : crcByte r c < 4294967296 := crcBits_lt 8 (Nat.xor_lt_two_pow (n := 32) h (by omega))
theorem crcAll_lt : ∀ (b : List Nat) {r : Nat}, r < 4294967296 → (∀ c ∈ b, c < 256) → crcAll r b < 4294967296
  | [], _, h, _ => h
  | c :: b, _, h, hb => crcAll_lt b (crcByte_lt h (hb c (List.mem_cons_self ..))) (fun x hx => hb x (List.mem_cons_of_mem _ hx))
/-- One step tells where it came from. -/
theorem crcBit_inj {a b : Nat} (ha : a < 4294967296) (hb : b < 4294967296) (h : crcBit a = crcBit b) : a = b := by
  have key : ∀ x, x < 4294967296 → (crcBit x).testBit 31 = decide (x % 2 = 1) := by
    intro x hx
    unfold crcBit
    have h1 : (x / 2).testBit 31 = false := Nat.testBit_lt_two_pow (by omega)
    by_cases e : x % 2 = 1
    · rw [if_pos e, Nat.testBit_xor, h1, decide_eq_true e]; decide
    · rw [if_neg e, h1, decide_eq_false e]
  have k1 := key a ha
  have k2 := key b hb
  rw [h, k2] at k1
  rw [decide_eq_decide] at k1
  unfold crcBit at h
  by_cases e : a % 2 = 1
  · rw [if_pos e, if_pos (k1.2 e)] at h
    have := congrArg (· ^^^ crcP) h
    simp only [Nat.xor_assoc, Nat.xor_self, Nat.xor_zero] at this
    have := k1.2 e
    omega
  · rw [if_neg e, if_neg (fun x => e (k1.1 x))] at h
    have := fun x => e (k1.1 x)
    omega
theorem crcBits_inj : ∀ (k : Nat) {a b : Nat}, a < 4294967296 → b < 4294967296 → crcBits k a = crcBits k b → a = b
  | 0, _, _, _, _, h => h
  | k + 1, _, _, ha, hb, h => crcBit_inj ha hb (crcBits_inj k (crcBit_lt ha) (crcBit_lt hb) h)
theorem xor_left_inj {a b c : Nat} (h : a ^^^ b = a ^^^ c) : b = c := by
  have := congrArg (a ^^^ ·) h
  simpa only [← Nat.xor_assoc, Nat.xor_self, Nat.zero_xor] using this
theorem crcByte_inj_c {r c d : Nat} (hr : r < 4294967296) (hc : c < 256) (hd : d < 256) (h : crcByte r c = crcByte r d) : c = d :=
  xor_left_inj (crcBits_inj 8 (Nat.xor_lt_two_pow (n := 32) hr (by omega)) (Nat.xor_lt_two_pow (n := 32) hr (by omega)) h)
theorem crcByte_inj_r {r s c : Nat} (hr : r < 4294967296) (hs : s < 4294967296) (hc : c < 256) (h : crcByte r c = crcByte s c) : r = s := by
  have := crcBits_inj 8 (Nat.xor_lt_two_pow (n := 32) hr (by omega)) (Nat.xor_lt_two_pow (n := 32) hs (by omega)) h
  rw [Nat.xor_comm r c, Nat.xor_comm s c] at this
  exact xor_left_inj this
theorem crcAll_inj : ∀ (b : List Nat) {r s : Nat}, r < 4294967296 → s < 4294967296 → (∀ c ∈ b, c < 256) → crcAll r b = crcAll s b → r = s
  | [], _, _, _, _, _, h => h
  | c :: b, r, s, hr, hs, hb, h => by
    have hc := hb c (List.mem_cons_self ..)
    exact crcByte_inj_r hr hs hc (crcAll_inj b (crcByte_lt hr hc) (crcByte_lt hs hc) (fun x hx => hb x (List.mem_cons_of_mem _ hx)) h)
/-- One other byte: another sum. -/
theorem sum_one (b d : List Nat) {x y : Nat} (hb : ∀ c ∈ b, c < 256) (hd : ∀ c ∈ d, c < 256) (hx : x < 256) (hy : y < 256) (hne : x ≠ y) : sumB (b ++ x :: d) ≠ sumB (b ++ y :: d) := by
  intro h
  unfold sumB at h
  have h1 := xor_left_inj h
  unfold crcAll at h1
  rw [List.foldl_append, List.foldl_append, List.foldl_cons, List.foldl_cons] at h1
  have hr : crcAll ones b < 4294967296 := crcAll_lt b (by decide) hb
  exact hne (crcByte_inj_c hr hx hy (crcAll_inj d (crcByte_lt hr hx) (crcByte_lt hr hy) hd h1))
/-- The four bytes of a number. -/
def fourB (n : Nat) : List Nat := [n % 256, n / 256 % 256, n / 65536 % 256, n / 16777216 % 256]
end Go.Proofs.YtmepaeahchiglaaGreatDoor
namespace Go.Proofs.YtmepaeahchiglaaGreatDoor
open Go.RowKit Go.Lib

theorem crcBits_succ : ∀ (k r : Nat), crcBits (k + 1) r = crcBit (crcBits k r)
  | 0, _ => rfl
  | k + 1, r => by
    show crcBits (k + 1) (crcBit r) = _
    rw [crcBits_succ k]; rfl
theorem bit_step {X : Nat} (h : X < 4294967296) : bits .xor .u32 ((X : Int) / 2) (bits .and .u32 3988292384 (-((X : Int) % 2) % 4294967296)) = ((crcBit X : Nat) : Int) := by
  have e : (X : Int) / 2 = ((X / 2 : Nat) : Int) := by omega
  rw [e]
  unfold crcBit crcP
  by_cases h1 : X % 2 = 1
  · rw [if_pos h1, show (-((X : Int) % 2) % 4294967296) = 4294967295 by omega, show bits .and .u32 3988292384 4294967295 = ((3988292384 : Nat) : Int) by decide]
    exact u32_xor_nat (X / 2) 3988292384 (by omega) (by decide)
  · rw [if_neg h1, show (-((X : Int) % 2) % 4294967296) = 0 by omega, show bits .and .u32 3988292384 0 = ((0 : Nat) : Int) by decide]
    have := u32_xor_nat (X / 2) 0 (by omega) (by decide)
    simpa using this
set_option maxRecDepth 20000 in
set_option maxHeartbeats 4000000 in
theorem sum_any (A : Option Addr) (n c : Nat) (xs : List UInt8) (w : World) (hx : ReadB w w.heap.size A n xs) (hn : n ≤ maxLen) :
    Calls Tryz.prog 19 #[.slice A n c] w fun e w' => e = .returned (.int .u32 (sumB (xs.map UInt8.toNat) : Nat)) ∧ w = w' := by
  unfold maxLen at hn
  obtain ⟨res, hres⟩ : ∃ res : Nat, sumB (xs.map UInt8.toNat) = res := ⟨_, rfl⟩
  rw [hres]
  have HX := Lib.hid hx; have HRES := Lib.hid hres
  clear hx hres
  go_enter Tryz.func19, Tryz.ntmps19
  have hxl := HX.out.len
  go_wp2
  go_loopw [3, 8] (fun r i wr => ∃ k : Nat, k ≤ n ∧ i = .int .i64 k ∧ r = .int .u32 (crcAll ones ((xs.map UInt8.toNat).take k) : Nat) ∧ w = wr) (fun _ i _ => n - (RowKit.intOf i).toNat)
  case atStart => exact ⟨0, by omega, rfl, rfl, rfl⟩
  case round =>
    obtain ⟨k, hk, rfl, rfl, rfl⟩ := hrel
    by_cases hlt : k < n
    · have hkl : k < xs.length := by omega
      obtain ⟨ad, rfl, had, hcx⟩ := ReadB.at_ (k := k) HX.out hkl
      have hkI : (k : Int) < (n : Int) := by omega
      have hR : crcAll ones ((xs.map UInt8.toNat).take k) < 4294967296 := crcAll_lt _ (by decide) (fun c hc => by
        obtain ⟨x, _, rfl⟩ := List.mem_map.1 (List.mem_of_mem_take hc)
        exact x.toNat_lt)
      have hst : crcAll ones ((xs.map UInt8.toNat).take (k + 1)) = crcByte (crcAll ones ((xs.map UInt8.toNat).take k)) xs[k].toNat := by
        rw [List.take_succ_eq_append_getElem (by simpa using hkl)]
        unfold crcAll
        rw [List.foldl_append, List.foldl_cons, List.foldl_nil, List.getElem_map]
      have hc256 := xs[k].toNat_lt
      generalize xs[k].toNat = cc at hcx hst hc256
      generalize crcAll ones ((xs.map UInt8.toNat).take k) = R at hR hst ⊢
      have HST := Lib.hid hst
      have hxor := u32_xor_nat R cc hR (by omega)
      clear hst
      have hY : R ^^^ cc < 4294967296 := Nat.xor_lt_two_pow (n := 32) hR (by omega)
      go_wp2
      generalize hYe : R ^^^ cc = Y at *
      have HY := Lib.hid hYe
      clear hYe
      clear hxor
      go_loopw [3, 16] (fun r i wr => ∃ j : Nat, j ≤ 8 ∧ i = .int .i64 j ∧ r = .int .u32 (crcBits j Y : Nat) ∧ w = wr) (fun _ i _ => 8 - (RowKit.intOf i).toNat)
      case atStart => exact ⟨0, by omega, rfl, rfl, rfl⟩
      case round =>
        obtain ⟨j, hj, rfl, rfl, rfl⟩ := hrel
        by_cases hlt2 : j < 8
        · have hX : crcBits j Y < 4294967296 := crcBits_lt j hY
          have hst2 := crcBits_succ j Y
          generalize crcBits j Y = X at hX hst2 ⊢
          have HST2 := Lib.hid hst2
          have hbs := bit_step hX
          have hand : bits .and .u32 (X : Int) 1 = (X : Int) % 2 := by
            have := u32_and_nat X 1 hX (by decide)
            rw [Nat.and_one_is_mod] at this
            simpa using this
          clear hst2
          go_wp2
          go_roundw
          case rel => exact ⟨j + 1, by omega, by go_num, by rw [HST2.out, ← hbs], trivial⟩
          case measure => simp [RowKit.intOf]; omega
        · obtain rfl : j = 8 := by omega
          go_wp2
          go_roundw
          case rel => exact ⟨k + 1, by omega, by go_num, by rw [HST.out]; unfold crcByte; rw [HY.out], trivial⟩
          case measure => simp [RowKit.intOf]; omega
    · obtain rfl : k = n := by omega
      rw [List.take_of_length_le (by rw [List.length_map]; omega)]
      have hr := HRES.out
      unfold sumB at hr
      have hlt3 : crcAll ones (xs.map UInt8.toNat) < 4294967296 := crcAll_lt _ (by decide) (fun c hc => by
        obtain ⟨x, _, rfl⟩ := List.mem_map.1 hc
        exact x.toNat_lt)
      generalize crcAll ones (xs.map UInt8.toNat) = R at hr hlt3 ⊢
      have hm : bits .xor .u32 IntKind.u32.max (R : Int) = ((ones ^^^ R : Nat) : Int) := u32_xor_nat 4294967295 R (by decide) hlt3
      go_wp2
      go_ret
      exact ⟨by rw [← hr, ← hm]; rfl, rfl⟩
end Go.Proofs.YtmepaeahchiglaaGreatDoor
namespace Go.Proofs.YtmepaeahchiglaaGreatDoor
open Go.RowKit Go.Lib

theorem setRow_new (w : World) (c c' : Array Value) (t : TypeId) : (w.alloc (.cells c t)).setRow w.heap.size c' = w.alloc (.cells c' t) := by
  simp only [World.setRow, World.alloc]
  congr 1
  apply Array.ext_getElem?
  intro i
  rw [Array.getElem?_modify]
  by_cases h : w.heap.size = i
  · subst h
    simp
  · have h' : ¬ i = w.heap.size := fun e => h e.symm
    simp [h, h', Array.getElem?_push]
/-- A store of a whole row into the block that was made last. -/
theorem store_new {P : Program} {ops : Array Oper} {rest : List Oper} {o : Oper} {a : Act} {w : World} {c cs : Array Value} {Q : Exit → Act → World → Prop} (hgd : o.guard = none) (ty : TypeId) (x y : Operand) (ho : o.op = .store ty x y)
    (hx : a.eval x = .pointer (some ⟨w.heap.size, 0, none⟩)) (hy : a.eval y = .agg cs) (hi : (P.info? ty).map (·.size) = some cs.size) (hc : c.size = cs.size) (h1 : cs.all (·.oneCell') = true)
    (h : wpList P ops Q rest (a.put o.dst undef) (w.alloc (.cells cs ty))) : wpList P ops Q (o :: rest) a (w.alloc (.cells c ty)) := by
  refine wpList_plain hgd fun _ hK => ?_
  unfold Oper.wp execOp
  simp only [ho, hx, hy, Instr.storeAt, Instr.sureAddr, Sem.run_bind, Sem.run_pure, Result.andThen_ok, run_storeVar_row _ _ ty ty c cs (heap_alloc_new w _) hi hc h1, setRow_new]
  exact hK _ _ h
theorem reads_lit (w : World) (t : TypeId) (k n : Nat) (xs : List Value) (hl : xs.length = n * k) : Reads (w.alloc (.cells xs.toArray t)) (w.heap.size + 1) k (some ⟨w.heap.size, 0, none⟩) n xs :=
  ⟨hl, fun _ => ⟨_, rfl, Nat.lt_succ_self _, fun j u hu => by rw [add_at, (Blk.new w t xs.toArray).cell j]; simpa using hu⟩⟩
/-- The law that works packs. -/
def lawT : Lw := ⟨⟨#[86]⟩, .mk 1 (4, 0) false 0 0 [], .mk 1 (4, 0) false 0 0 [], [(2, 0)], [⟨0, 0, (1, 0), 0, 0⟩], 1⟩
/-- What works made ahead of its calls. -/
structure WF (w W : World) (cs : List Value) : Prop where
  below : Below w.heap.size w W
  lt : w.heap.size + 6 ≤ W.heap.size
  b1 : Blk W w.heap.size 55 #[.int .u32 2, .int .u32 5]
  b2 : Blk W (w.heap.size + 1) 55 #[.int .u32 5, .int .u32 2]
  b5 : Blk W (w.heap.size + 1 + 1 + 1 + 1 + 1) 62 cs.toArray
  law : LawC W (w.heap.size + 6) lawT cs
theorem WF.next {w W W' : World} {cs : List Value} (h : WF w W cs) (hb : Below W.heap.size W W') : WF w W' cs :=
  ⟨h.below.trans (hb.mono h.below.size), by have := h.lt; have := hb.size; omega, h.b1.below hb h.b1.lt, h.b2.below hb h.b2.lt, h.b5.below hb h.b5.lt, h.law.below (hb.mono h.lt)⟩
theorem WF.alloc {w W : World} {cs : List Value} (h : WF w W cs) (o : Obj) : WF w (W.alloc o) cs := h.next ((Below.refl _ W).alloc (Nat.le_refl _) o)
theorem works_start (w : World) : ∃ W cs, ((((((w.alloc (.cells #[.int .u32 2, .int .u32 5] 55)).alloc (.cells #[.int .u32 5, .int .u32 2] 55)).alloc (.cells #[.int .i64 1, .int .u32 4, .int .u32 0, .bool false, .int .i64 0, .int .i64 0, .slice none 0 0] 58)).alloc (.cells #[.int .u32 2, .int .u32 0] 55)).alloc
    (.cells #[.int .i64 0, .int .u32 0, .int .u32 1, .int .u32 0, .int .u32 0, .int .i64 0] 90)).alloc (.cells #[.string { data := #[86] }, .int .i64 1, .int .u32 4, .int .u32 0, .bool false, .int .i64 0, .int .i64 0, .slice none 0 0, .int .i64 1, .int .u32 4, .int .u32 0, .bool false, .int .i64 0, .int .i64 0, .slice none 0 0,
      .slice (some { block := w.heap.size + 1 + 1 + 1, off := 0 }) 1 1, .slice (some { block := w.heap.size + 1 + 1 + 1 + 1, off := 0 }) 1 1, .int .i64 1] 62)) = W ∧ WF w W cs ∧ W.heap.size = w.heap.size + 1 + 1 + 1 + 1 + 1 + 1 := by
  refine ⟨_, [.string { data := #[86] }, .int .i64 1, .int .u32 4, .int .u32 0, .bool false, .int .i64 0, .int .i64 0, .slice none 0 0, .int .i64 1, .int .u32 4, .int .u32 0, .bool false, .int .i64 0, .int .i64 0, .slice none 0 0,
      .slice (some { block := w.heap.size + 1 + 1 + 1, off := 0 }) 1 1, .slice (some { block := w.heap.size + 1 + 1 + 1 + 1, off := 0 }) 1 1, .int .i64 1], rfl, ?_, by simp only [World.size_alloc]⟩
  have e1 := Below.refl w.heap.size w
  have f1 := Blk.new w 55 #[.int .u32 2, .int .u32 5]
  have e2 := e1.alloc (Nat.le_refl _) (.cells #[.int .u32 2, .int .u32 5] 55)
  have z2 : (w.alloc (.cells #[.int .u32 2, .int .u32 5] 55)).heap.size = w.heap.size + 1 := World.size_alloc _ _
  generalize w.alloc (.cells #[.int .u32 2, .int .u32 5] 55) = W1 at *
  have f2 := Blk.new W1 55 #[.int .u32 5, .int .u32 2]
  replace f1 := f1.alloc (.cells #[.int .u32 5, .int .u32 2] 55)
  have e3 := e2.alloc (by omega) (.cells #[.int .u32 5, .int .u32 2] 55)
  have z3 : (W1.alloc (.cells #[.int .u32 5, .int .u32 2] 55)).heap.size = w.heap.size + 1 + 1 := by rw [World.size_alloc, z2]
  rw [z2] at f2
  generalize W1.alloc (.cells #[.int .u32 5, .int .u32 2] 55) = W2 at *
  replace f1 := f1.alloc (.cells #[.int .i64 1, .int .u32 4, .int .u32 0, .bool false, .int .i64 0, .int .i64 0, .slice none 0 0] 58)
  replace f2 := f2.alloc (.cells #[.int .i64 1, .int .u32 4, .int .u32 0, .bool false, .int .i64 0, .int .i64 0, .slice none 0 0] 58)
  have e4 := e3.alloc (by omega) (.cells #[.int .i64 1, .int .u32 4, .int .u32 0, .bool false, .int .i64 0, .int .i64 0, .slice none 0 0] 58)
  have z4 : (W2.alloc (.cells #[.int .i64 1, .int .u32 4, .int .u32 0, .bool false, .int .i64 0, .int .i64 0, .slice none 0 0] 58)).heap.size = w.heap.size + 1 + 1 + 1 := by rw [World.size_alloc, z3]
  generalize W2.alloc (.cells #[.int .i64 1, .int .u32 4, .int .u32 0, .bool false, .int .i64 0, .int .i64 0, .slice none 0 0] 58) = W3 at *
  have r4 := reads_lit W3 55 2 1 [.int .u32 2, .int .u32 0] rfl
  replace f1 := f1.alloc (.cells #[.int .u32 2, .int .u32 0] 55)
  replace f2 := f2.alloc (.cells #[.int .u32 2, .int .u32 0] 55)
  have e5 := e4.alloc (by omega) (.cells #[.int .u32 2, .int .u32 0] 55)
  have z5 : (W3.alloc (.cells #[.int .u32 2, .int .u32 0] 55)).heap.size = w.heap.size + 1 + 1 + 1 + 1 := by rw [World.size_alloc, z4]
  rw [z4] at r4
  generalize W3.alloc (.cells #[.int .u32 2, .int .u32 0] 55) = W4 at *
  have r5 := reads_lit W4 90 6 1 [.int .i64 0, .int .u32 0, .int .u32 1, .int .u32 0, .int .u32 0, .int .i64 0] rfl
  replace r4 := r4.alloc (by omega) (.cells #[.int .i64 0, .int .u32 0, .int .u32 1, .int .u32 0, .int .u32 0, .int .i64 0] 90)
  replace f1 := f1.alloc (.cells #[.int .i64 0, .int .u32 0, .int .u32 1, .int .u32 0, .int .u32 0, .int .i64 0] 90)
  replace f2 := f2.alloc (.cells #[.int .i64 0, .int .u32 0, .int .u32 1, .int .u32 0, .int .u32 0, .int .i64 0] 90)
  have e6 := e5.alloc (by omega) (.cells #[.int .i64 0, .int .u32 0, .int .u32 1, .int .u32 0, .int .u32 0, .int .i64 0] 90)
  have z6 : (W4.alloc (.cells #[.int .i64 0, .int .u32 0, .int .u32 1, .int .u32 0, .int .u32 0, .int .i64 0] 90)).heap.size = w.heap.size + 1 + 1 + 1 + 1 + 1 := by rw [World.size_alloc, z5]
  rw [z5] at r5
  generalize W4.alloc (.cells #[.int .i64 0, .int .u32 0, .int .u32 1, .int .u32 0, .int .u32 0, .int .i64 0] 90) = W5 at *
  generalize hO : Obj.cells #[.string { data := #[86] }, .int .i64 1, .int .u32 4, .int .u32 0, .bool false, .int .i64 0, .int .i64 0, .slice none 0 0, .int .i64 1, .int .u32 4, .int .u32 0, .bool false, .int .i64 0, .int .i64 0, .slice none 0 0,
      .slice (some { block := w.heap.size + 1 + 1 + 1, off := 0 }) 1 1, .slice (some { block := w.heap.size + 1 + 1 + 1 + 1, off := 0 }) 1 1, .int .i64 1] 62 = ob
  have hnw : (W5.alloc ob).heap[W5.heap.size]? = some ob := heap_alloc_new W5 ob
  rw [z6] at hnw
  refine ⟨e6.alloc (by omega) _, by rw [World.size_alloc, z6]; omega, f1.alloc _, f2.alloc _, by rw [← hO] at hnw ⊢; exact hnw, ?_⟩
  refine ⟨[.int .i64 1, .int .u32 4, .int .u32 0, .bool false, .int .i64 0, .int .i64 0, .slice none 0 0], [.int .i64 1, .int .u32 4, .int .u32 0, .bool false, .int .i64 0, .int .i64 0, .slice none 0 0], some ⟨w.heap.size + 1 + 1 + 1, 0, none⟩, 1, some ⟨w.heap.size + 1 + 1 + 1 + 1, 0, none⟩, 1, rfl, ?_, ?_, ?_, ?_, ?_, ?_, ?_, ?_⟩
  · exact patC_mk.2 ⟨none, 0, [], rfl, by unfold ok32 is32; decide, by decide, by decide, Reads.none_, patsC_nil.2 rfl⟩
  · exact patC_mk.2 ⟨none, 0, [], rfl, by unfold ok32 is32; decide, by decide, by decide, Reads.none_, patsC_nil.2 rfl⟩
  · exact (r4.alloc (by omega) _).more (by omega)
  · exact (r5.alloc (by omega) _).more (by omega)
  · intro s hs; simp only [lawT, List.mem_singleton] at hs; subst hs; unfold ok32 is32; decide
  · intro x hx; simp only [lawT, List.mem_singleton] at hx; subst hx; unfold ok32 is32; decide
  · decide
  · decide
set_option maxRecDepth 20000 in
theorem putW_T : putW [(2, 5), (5, 2)] = [2, 2, 5, 5, 2] := by decide
set_option maxRecDepth 20000 in
theorem wordE_T : wordE [(2, 5), (5, 2)] = 0 := by decide
set_option maxRecDepth 20000 in
theorem getW_T : getW [2, 2, 5, 5, 2, 99] = ([(2, 5), (5, 2)], 5, 0) := by decide
set_option maxRecDepth 20000 in
theorem lawE_T : lawE lawT = 0 := by decide
set_option maxRecDepth 20000 in
theorem putL_T : putL lawT = [1, 86, 1, 4, 0, 0, 1, 4, 0, 0, 1, 2, 0, 1, 1, 0, 1, 0, 0, 0, 1] := by decide
set_option maxRecDepth 20000 in
theorem sumB_T : sumB [49, 50, 51, 52, 53, 54, 55, 56, 57] = 3421780262 := by decide
end Go.Proofs.YtmepaeahchiglaaGreatDoor
namespace Go.Proofs.YtmepaeahchiglaaGreatDoor
open Go.RowKit Go.Lib

/-- A row that a call made, as a slice that can be read. -/
theorem own_reads {w : World} {base : Nat} {e : TypeId} {size n : Nat} {v : Value} {xs : List Value} (h : w.ownsRow base e size v n xs) : ∃ A c, v = .slice A n c ∧ n ≤ c ∧ c ≤ maxLen ∧ Reads w w.heap.size size A n xs := by
  obtain ⟨A, c, rfl, h1, h2⟩ := ownsRow_form h
  exact ⟨A, c, rfl, h1, h2, Reads.of_own h⟩
theorem bv_lt_of {l : List Nat} (h : l.all (fun b => decide (b < 256)) = true) : ∀ b ∈ l, b < 256 := fun b hb => by simpa using List.all_eq_true.1 h b hb
theorem reads_mark (w : World) (t : TypeId) (k n : Nat) (xs : List Value) (fr : Nat × Nat) (hl : xs.length = n * k) : Reads (w.alloc (.cells xs.toArray t fr)) (w.heap.size + 1) k (some ⟨w.heap.size, 0, none⟩) n xs :=
  ⟨hl, fun _ => ⟨_, rfl, Nat.lt_succ_self _, fun j u hu => by rw [add_at, cell_of_row _ _ _ _ t fr (heap_alloc_new w _)]; simpa using hu⟩⟩
set_option maxRecDepth 20000 in
set_option maxHeartbeats 4000000 in
theorem works_any (w : World) : Calls Tryz.prog 9 #[] w fun e w' => e = .returned (.bool true) ∧ Below w.heap.size w w' := by
  have HST := Lib.hid (works_start w)
  go_enter Tryz.func9, Tryz.ntmps9
  go_wp2_with (refine store_new rfl _ _ _ rfl rfl rfl (by kernel_rfl) rfl rfl ?_; simp only [Act.put, List.setIfInBounds_toArray, List.set_cons_zero, List.set_cons_succ])
  obtain ⟨W, cs, hW, hF, hz⟩ := HST.out
  rw [hW]
  clear hW HST
  have hr := reads_lit W 55 2 2 [.int .u32 2, .int .u32 5, .int .u32 5, .int .u32 2] rfl
  rw [hz] at hr
  have hF1 := hF.alloc (.cells #[.int .u32 2, .int .u32 5, .int .u32 5, .int .u32 2] 55)
  have hz1 : (W.alloc (.cells #[.int .u32 2, .int .u32 5, .int .u32 5, .int .u32 2] 55)).heap.size = w.heap.size + 1 + 1 + 1 + 1 + 1 + 1 + 1 := by rw [World.size_alloc, hz]
  generalize W.alloc (.cells #[.int .u32 2, .int .u32 5, .int .u32 5, .int .u32 2] 55) = W1 at *
  have hput := putWord_any (some ⟨w.heap.size + 1 + 1 + 1 + 1 + 1 + 1, 0, none⟩) 2 2 _ [(2, 5), (5, 2)] W1 hr (by omega) (by decide) (by intro s hs; simp only [List.mem_cons, List.not_mem_nil, or_false] at hs; rcases hs with rfl | rfl <;> (unfold ok32 is32; decide))
  rw [putW_T, wordE_T] at hput
  have HF1 := Lib.hid hF1
  clear hF hF1 hr hz
  refine hput.mono ?_
  clear hput
  rintro e w2 ⟨v5, rfl, ho5, hb2⟩
  have hF2 := HF1.out.next hb2
  obtain ⟨A5, c5, rfl, hn5, hc5, hr5⟩ := own_reads ho5
  have HF2 := Lib.hid hF2; have HR5 : Hid (Reads w2 w2.heap.size 1 A5 5 (List.map bv [2, 2, 5, 5, 2])) := Lib.hid hr5
  clear ho5 hr5 hb2 hF2 hz1
  go_wp2_with fail
  have hr := reads_lit w2 5 1 6 [.int .u8 2, .int .u8 2, .int .u8 5, .int .u8 5, .int .u8 2, .int .u8 99] rfl
  have hb := (Below.refl w2.heap.size w2).alloc (Nat.le_refl _) (.cells #[.int .u8 2, .int .u8 2, .int .u8 5, .int .u8 5, .int .u8 2, .int .u8 99] 5)
  have hz3 : (w2.alloc (.cells #[.int .u8 2, .int .u8 2, .int .u8 5, .int .u8 5, .int .u8 2, .int .u8 99] 5)).heap.size = w2.heap.size + 1 := World.size_alloc _ _
  generalize w2.alloc (.cells #[.int .u8 2, .int .u8 2, .int .u8 5, .int .u8 5, .int .u8 2, .int .u8 99] 5) = w3 at *
  have hget := getWord_any w3 (some ⟨w2.heap.size, 0, none⟩) 6 6 _ [2, 2, 5, 5, 2, 99] hr (by omega) (by decide) (by decide) (by decide) (bv_lt_of (by decide))
  rw [getW_T] at hget
  replace hget : Calls Tryz.prog 24 #[.slice (some ⟨w2.heap.size, 0, none⟩) 6 6] w3 (fun e w' => ∃ v, e = .returned (.tuple #[v, .int .i64 5, .int .i64 0]) ∧ w'.ownsRow w3.heap.size 55 2 v 2 ([((2 : Nat), (5 : Nat)), (5, 2)].flatMap sndC) ∧ Below w3.heap.size w3 w') := hget
  have HB3 := Lib.hid hb; have HF3 := Lib.hid (HF2.out.next hb); have HR53 := Lib.hid (HR5.out.below hb)
  clear hb hr hz3 HF2 HR5
  refine hget.mono ?_
  clear hget
  rintro e w4 ⟨v7, rfl, ho7, hb4⟩
  obtain ⟨A7, c7, rfl, hn7, hc7, hr7⟩ := own_reads ho7
  have HF4 := Lib.hid (HF3.out.next hb4); have HR54 := Lib.hid ((HR53.out.below (hb4.mono HB3.out.size)).more (Nat.le_trans HB3.out.size hb4.size)); have HR7 : Hid (Reads w4 w4.heap.size 2 A7 2 ([((2 : Nat), (5 : Nat)), (5, 2)].flatMap sndC)) := Lib.hid hr7
  clear hb4 ho7 hr7 HR53 HF3 HB3
  have HLEN := Lib.hid (law_len HF4.out.law)
  have HB5 := Lib.hid HF4.out.b5
  go_wp2_with (refine law_load rfl _ rfl _ rfl _ HLEN.out HB5.out ?_; simp only [Act.put, List.setIfInBounds_toArray, List.set_cons_zero, List.set_cons_succ])
  have hpl := putLaw_any w4 (w.heap.size + 6) lawT cs HF4.out.law HF4.out.lt (by decide)
  rw [putL_T, lawE_T] at hpl
  refine hpl.mono ?_
  clear hpl
  rintro e w5 ⟨v10, rfl, ho10, hb5⟩
  obtain ⟨A10, c10, rfl, hn10, hc10, hr10⟩ := own_reads ho10
  have HF5 := Lib.hid (HF4.out.next hb5); have HR55 := Lib.hid ((HR54.out.below hb5).more hb5.size); have HR75 := Lib.hid ((HR7.out.below hb5).more hb5.size)
  have HR10 : Hid (Reads w5 w5.heap.size 1 A10 21 (List.map bv [1, 86, 1, 4, 0, 0, 1, 4, 0, 0, 1, 2, 0, 1, 1, 0, 1, 0, 0, 0, 1])) := Lib.hid hr10
  clear hb5 ho10 hr10 HR54 HR7 HF4 HB5
  go_wp2_with fail
  have hr := reads_lit w5 5 1 5 [.int .u8 2, .int .u8 2, .int .u8 5, .int .u8 5, .int .u8 2] rfl
  have hb := (Below.refl w5.heap.size w5).alloc (Nat.le_refl _) (.cells #[.int .u8 2, .int .u8 2, .int .u8 5, .int .u8 5, .int .u8 2] 5)
  have heq1 := bytesEq_any A5 (some ⟨w5.heap.size, 0, none⟩) 5 5 c5 5 (w5.heap.size + 1) [2, 2, 5, 5, 2] [2, 2, 5, 5, 2] _ ((HR55.out.below hb).more (by omega)) hr (bv_lt_of (by decide)) (bv_lt_of (by decide))
  rw [decide_eq_true rfl] at heq1
  have HF6 := Lib.hid (HF5.out.next hb); have HR76 := Lib.hid ((HR75.out.below hb).more hb.size); have HR106 := Lib.hid ((HR10.out.below hb).more hb.size)
  refine heq1.mono ?_
  clear heq1 hr hb HR55 HR75 HR10 HF5
  rintro e w6 ⟨rfl, hw6⟩
  rw [hw6] at HF6 HR76 HR106
  clear hw6
  have k1 := HF6.out.b1.cell 0
  have k2 := HF6.out.b1.cell 1
  have k3 := HF6.out.b2.cell 0
  have k4 := HF6.out.b2.cell 1
  simp only [List.getElem?_toArray, List.getElem?_cons_zero, List.getElem?_cons_succ] at k1 k2 k3 k4
  go_wp2_with fail
  have hr := reads_lit w6 55 2 2 [.int .u32 2, .int .u32 5, .int .u32 5, .int .u32 2] rfl
  have hb := (Below.refl w6.heap.size w6).alloc (Nat.le_refl _) (.cells #[.int .u32 2, .int .u32 5, .int .u32 5, .int .u32 2] 55)
  have hz : (w6.alloc (.cells #[.int .u32 2, .int .u32 5, .int .u32 5, .int .u32 2] 55)).heap.size = w6.heap.size + 1 := World.size_alloc _ _
  have heq2 := refEqual_any A7 (some ⟨w6.heap.size, 0, none⟩) 2 2 c7 2 (w6.heap.size + 1) [(2, 5), (5, 2)] [(2, 5), (5, 2)] _ ((HR76.out.below hb).more (by omega)) hr (by rw [hz]; exact Nat.le_refl _) (by decide)
  rw [decide_eq_true rfl] at heq2
  have HF7 := HF6.out.next hb; have HR107 := (HR106.out.below hb).more hb.size
  generalize w6.alloc (.cells #[.int .u32 2, .int .u32 5, .int .u32 5, .int .u32 2] 55) = w7 at *
  have HF7' := Lib.hid HF7; have HR107' := Lib.hid HR107
  refine heq2.mono ?_
  clear heq2 hr hb HR76 HR106 HF6 k1 k2 k3 k4 HF7 HR107 hz
  rintro e w8 ⟨rfl, _, hb8⟩
  have HF8 := Lib.hid (HF7'.out.next hb8); have HR108 := Lib.hid ((HR107'.out.below hb8)); have hz8 := hb8.size
  have HZ8 := Lib.hid hz8
  clear hb8 HF7' HR107' hz8
  go_wp2_with fail
  have hr := reads_lit w8 5 1 21 [.int .u8 1, .int .u8 86, .int .u8 1, .int .u8 4, .int .u8 0, .int .u8 0, .int .u8 1, .int .u8 4, .int .u8 0, .int .u8 0, .int .u8 1, .int .u8 2, .int .u8 0, .int .u8 1, .int .u8 1, .int .u8 0, .int .u8 1, .int .u8 0, .int .u8 0, .int .u8 0, .int .u8 1] rfl
  have hb := (Below.refl w8.heap.size w8).alloc (Nat.le_refl _) (.cells #[.int .u8 1, .int .u8 86, .int .u8 1, .int .u8 4, .int .u8 0, .int .u8 0, .int .u8 1, .int .u8 4, .int .u8 0, .int .u8 0, .int .u8 1, .int .u8 2, .int .u8 0, .int .u8 1, .int .u8 1, .int .u8 0, .int .u8 1, .int .u8 0, .int .u8 0, .int .u8 0, .int .u8 1] 5)
  have hz := HZ8.out
  have hsz : (w8.alloc (.cells #[.int .u8 1, .int .u8 86, .int .u8 1, .int .u8 4, .int .u8 0, .int .u8 0, .int .u8 1, .int .u8 4, .int .u8 0, .int .u8 0, .int .u8 1, .int .u8 2, .int .u8 0, .int .u8 1, .int .u8 1, .int .u8 0, .int .u8 1, .int .u8 0, .int .u8 0, .int .u8 0, .int .u8 1] 5)).heap.size = w8.heap.size + 1 := World.size_alloc _ _
  have hbq := bytesEq_any A10 (some ⟨w8.heap.size, 0, none⟩) 21 21 c10 21 (w8.heap.size + 1) [1, 86, 1, 4, 0, 0, 1, 4, 0, 0, 1, 2, 0, 1, 1, 0, 1, 0, 0, 0, 1] [1, 86, 1, 4, 0, 0, 1, 4, 0, 0, 1, 2, 0, 1, 1, 0, 1, 0, 0, 0, 1] _ (((HR108.out.more hz).below hb).more (by omega)) hr (bv_lt_of (by decide)) (bv_lt_of (by decide))
  rw [decide_eq_true rfl] at hbq
  have HF9 := Lib.hid (HF8.out.next hb)
  refine hbq.mono ?_
  clear hbq hr hb hz hsz HR108 HZ8 HF8
  rintro e w9 ⟨rfl, hw9⟩
  rw [hw9] at HF9
  clear hw9
  have kc := fun (W : World) (C : Array Value) (n c : Nat) => Lib.run_convert_bytes_const (P := Tryz.prog) W 36 5 C n c Tryz.underlying36 Tryz.underlying5
  go_wp2_with fail
  clear kc
  have hr : ReadB (w9.alloc (.cells #[.int .u8 49, .int .u8 50, .int .u8 51, .int .u8 52, .int .u8 53, .int .u8 54, .int .u8 55, .int .u8 56, .int .u8 57] 5 (9, 9 + 1))) (w9.alloc (.cells #[.int .u8 49, .int .u8 50, .int .u8 51, .int .u8 52, .int .u8 53, .int .u8 54, .int .u8 55, .int .u8 56, .int .u8 57] 5 (9, 9 + 1))).heap.size (some ⟨w9.heap.size, 0, none⟩) 9 [49, 50, 51, 52, 53, 54, 55, 56, 57] := by
    rw [World.size_alloc]
    exact reads_mark w9 5 1 9 [.int .u8 49, .int .u8 50, .int .u8 51, .int .u8 52, .int .u8 53, .int .u8 54, .int .u8 55, .int .u8 56, .int .u8 57] _ rfl
  have hsum := sum_any (some ⟨w9.heap.size, 0, none⟩) 9 9 _ _ hr (by decide)
  rw [show ([49, 50, 51, 52, 53, 54, 55, 56, 57] : List UInt8).map UInt8.toNat = [49, 50, 51, 52, 53, 54, 55, 56, 57] from rfl, sumB_T] at hsum
  have HF10 := Lib.hid (HF9.out.alloc (.cells #[.int .u8 49, .int .u8 50, .int .u8 51, .int .u8 52, .int .u8 53, .int .u8 54, .int .u8 55, .int .u8 56, .int .u8 57] 5 (9, 9 + 1)))
  refine hsum.mono ?_
  clear hsum hr HF9
  rintro e w10 ⟨rfl, hw10⟩
  rw [hw10] at HF10
  clear hw10
  go_wp2
  go_ret
  exact ⟨rfl, HF10.out.below⟩
end Go.Proofs.YtmepaeahchiglaaGreatDoor
namespace Go.Proofs.YtmepaeahchiglaaGreatDoor
open Go.RowKit Go.Lib

theorem numB_lt (n : Nat) : ∀ b ∈ numB n, b < 256 := numK_lt 5 n
theorem sndB_lt (s : Snd) : ∀ b ∈ sndB s, b < 256 := by
  intro b hb
  unfold sndB at hb
  rcases List.mem_append.1 hb with h | h <;> exact numB_lt _ b h
end Go.Proofs.YtmepaeahchiglaaGreatDoor
