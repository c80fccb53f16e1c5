/-
  layer 43: bytes that are read: the reader's memory; number. Conditions: bytes that can be read.
-/
import Derived.Test.YtmepaeahchiglaaGreatDoorZbac
import Derived.WalkSmall
import Derived.Test.YtmepaeahchiglaaGreatDoorZbPkCk
import Derived.Test.YtmepaeahchiglaaGreatDoorZbab
import Derived.Test.YtmepaeahchiglaaGreatDoorProg
import Derived.WalkKit
import Derived.Test.YtmepaeahchiglaaGreatDoorZbaa
import Derived.Test.YtmepaeahchiglaaGreatDoorZbaf
import Derived.Laws.BitsAllLaws
import Derived.Laws.IdiomStrings
namespace Go.Proofs.YtmepaeahchiglaaGreatDoor
open Go.RowKit Go.Lib

/-- All blocks but those of S are as they were. -/
structure Chg (S : List Nat) (w w' : World) : Prop where
  os : w'.os = w.os
  tape : w'.tape = w.tape
  output : w'.output = w.output
  size : w.heap.size ≤ w'.heap.size
  block : ∀ k, k < w.heap.size → k ∉ S → w'.heap[k]? = w.heap[k]?
theorem Chg.refl (S : List Nat) (w : World) : Chg S w w := ⟨rfl, rfl, rfl, Nat.le_refl _, fun _ _ _ => rfl⟩
section
variable {S : List Nat} {a w w' : World}
theorem Chg.trans (h : Chg S a w) (k : Chg S w w') : Chg S a w' :=
  ⟨k.os.trans h.os, k.tape.trans h.tape, k.output.trans h.output, Nat.le_trans h.size k.size, fun i hi hs => (k.block i (Nat.lt_of_lt_of_le hi h.size) hs).trans (h.block i hi hs)⟩
theorem Chg.mono {T : List Nat} (h : Chg S a w) (hs : ∀ k ∈ S, k ∈ T) : Chg T a w := ⟨h.os, h.tape, h.output, h.size, fun k hk hn => h.block k hk (fun hm => hn (hs k hm))⟩
theorem Chg.alloc (h : Chg S a w) (o : Obj) : Chg S a (w.alloc o) :=
  h.trans ⟨rfl, rfl, rfl, by simp, fun _ hk _ => Below.heap_alloc _ _ _ hk⟩
theorem Chg.drew (h : Chg S a w) : Chg S a w.drew := ⟨h.os, h.tape, h.output, h.size, h.block⟩
theorem Chg.setCell (h : Chg S a w) {p : Addr} (hp : p.block ∈ S ∨ a.heap.size ≤ p.block) (u : Value) : Chg S a (w.setCell p u) :=
  ⟨h.os, h.tape, h.output, by have := h.size; simpa [World.setCell] using this, fun k hk hs => (Below.heap_setCell _ _ _ _ (by
    rintro rfl
    rcases hp with hp | hp
    · exact hs hp
    · omega)).trans (h.block k hk hs)⟩
theorem Chg.of_below (h : Below w.heap.size w w') : Chg S w w' := ⟨h.os, h.tape, h.output, h.size, fun k hk _ => h.block k hk⟩
/-- What was changed there is new. -/
theorem Chg.new (h : Chg S a w) {T : List Nat} (k : Chg T w w') (hT : ∀ i ∈ T, i ∈ S ∨ a.heap.size ≤ i) : Chg S a w' :=
  ⟨k.os.trans h.os, k.tape.trans h.tape, k.output.trans h.output, Nat.le_trans h.size k.size, fun i hi hs => (k.block i (Nat.lt_of_lt_of_le hi h.size) (fun hm => by
    rcases hT i hm with h1 | h1
    · exact hs h1
    · omega)).trans (h.block i hi hs)⟩
theorem Chg.below {B : Nat} (h : Chg S w w') (hB : ∀ i ∈ S, B ≤ i) (hw : B ≤ w.heap.size) : Below B w w' :=
  ⟨h.os, h.tape, h.output, h.size, fun k hk => h.block k (by omega) (fun hm => by have := hB k hm; omega)⟩
theorem Blk.chg {g : Nat} {t : TypeId} {cs : Array Value} (h : Blk w g t cs) (hc : Chg S w w') (hg : g ∉ S) : Blk w' g t cs := (hc.block g h.lt hg).trans h
theorem own_chg {base : Nat} {e : TypeId} {size n : Nat} {v : Value} {xs : List Value} (h : w.ownsRow base e size v n xs) (hc : Chg S w w') (hs : ∀ k, v.ownBlock = some k → k ∉ S) : w'.ownsRow base e size v n xs := by
  rcases h.2 with ⟨rfl, rfl⟩ | ⟨g, cap, cur, rfl, h1, h2, h3⟩
  · exact ⟨h.1, .inl ⟨rfl, rfl⟩⟩
  · have hg : g < w.heap.size := (h.lt g rfl).2
    exact ⟨h.1, .inr ⟨g, cap, cur, rfl, h1, (hc.block g hg (hs g rfl)).trans h2, h3⟩⟩
end
/-- The bytes that are left, behind a reader's pointer. -/
def Rd (w : World) (g : Nat) (bs : List Nat) : Prop :=
  ∃ A c, Blk w g 175 #[.slice A bs.length c] ∧ Reads w g 1 A bs.length (bs.map bv) ∧ bs.length ≤ c ∧ c ≤ maxLen ∧ bs.length ≤ 1073741824 ∧ ∀ b ∈ bs, b < 256
theorem Rd.lt {w : World} {g : Nat} {bs : List Nat} (h : Rd w g bs) : g < w.heap.size := by
  obtain ⟨A, c, h, _⟩ := h; exact h.lt
theorem Rd.alloc {w : World} {g : Nat} {bs : List Nat} (h : Rd w g bs) (o : Obj) : Rd (w.alloc o) g bs := by
  obtain ⟨A, c, h1, h2, h3⟩ := h
  exact ⟨A, c, h1.alloc o, h2.alloc (Nat.le_of_lt h1.lt) o, h3⟩
theorem Rd.chg {w w' : World} {g : Nat} {bs : List Nat} {S : List Nat} (h : Rd w g bs) (hc : Chg S w w') (hs : ∀ k ∈ S, g < k) : Rd w' g bs := by
  obtain ⟨A, c, h1, h2, h3⟩ := h
  have hl := h1.lt
  exact ⟨A, c, h1.chg hc (fun hm => Nat.lt_irrefl _ (hs g hm)), h2.below (hc.below (fun i hi => Nat.le_of_lt (hs i hi)) (by omega)), h3⟩
/-- What is behind the first k bytes. -/
theorem cut_at (A : Option Addr) (n c k : Nat) (hk : k ≤ n) (hn : n ≤ c) : ∃ A1, (∀ W : World, (Instr.slice 36 (.slice A n c) (some (.int .i64 k)) none none).run Tryz.prog W = .ok (.slice A1 (n - k) (c - k)) W) ∧
    ∀ (W : World) (B : Nat) (xs : List Value), Reads W B 1 A n xs → Reads W B 1 A1 (n - k) (xs.drop k) := by
  refine ⟨if c = k then A else A.map (·.add (k * 1)), fun W => ?_, fun W B xs hr => by simpa using hr.cut (k := k) (cap := c) hk hn⟩
  obtain ⟨i0, hi, hz0, hz1, hz2⟩ := info_parts (show (Tryz.prog.info? 5).map (fun i => (i.zero, i.size, i.bytes)) = some (some (.int .u8 0), 1, 1) by kernel_rfl)
  have he : Tryz.prog.elem 36 = 5 := by kernel_rfl
  have hs : (sizeOf 5).run Tryz.prog W = .ok 1 W := by simp [sizeOf, typeInfo, hi, hz1]
  rw [run_slice_l W 36 A n c (by rw [he]; exact Tryz.underlying36) .i64 k (by omega) (by omega), he, hs]
  simp only [Result.andThen, sliced, Int.toNat_natCast]
theorem cut_one (ad : Addr) (m c : Nat) (h : m + 1 ≤ c) : ∃ A1, (∀ W : World, (Instr.slice 36 (.slice (some ad) (m + 1) c) (some (.int .i64 1)) none none).run Tryz.prog W = .ok (.slice A1 m (c - 1)) W) ∧
    ∀ (W : World) (B : Nat) (x : Value) (xs : List Value), Reads W B 1 (some ad) (m + 1) (x :: xs) → Reads W B 1 A1 m xs := by
  obtain ⟨A1, h1, h2⟩ := cut_at (some ad) (m + 1) c 1 (by omega) h
  exact ⟨A1, h1, fun W B x xs hr => h2 W B _ hr⟩
theorem or_step {acc k b T : Nat} (ha : acc < 128 ^ k) (hT : acc + 128 ^ k * (b % 128) = T) (hb : b < 256) (hT35 : T < 34359738368) :
    bits .or .u64 (acc : Int) (IntKind.u64.wrap (IntKind.u64.wrap (bits .and .u8 (b : Int) 127) * 2 ^ (7 * k))) = (T : Int) := by
  have h1 : bits .and .u8 (b : Int) 127 = ((b % 128 : Nat) : Int) := by
    have := u8_and_nat b 127 hb (by decide)
    rw [show b &&& 127 = b % 128 from Nat.and_two_pow_sub_one_eq_mod b 7] at this
    exact this
  have hp : (128 : Nat) ^ k = 2 ^ (7 * k) := by rw [Nat.pow_mul]
  have hle : 128 ^ k * (b % 128) ≤ T := by omega
  have h2 : IntKind.u64.wrap ((b % 128 : Nat) : Int) = ((b % 128 : Nat) : Int) := IntWalk.u64_in _ (by omega)
  have h3 : ((b % 128 : Nat) : Int) * 2 ^ (7 * k) = ((128 ^ k * (b % 128) : Nat) : Int) := by
    rw [hp, Nat.mul_comm (2 ^ (7 * k))]; simp
  have h4 : IntKind.u64.wrap ((128 ^ k * (b % 128) : Nat) : Int) = ((128 ^ k * (b % 128) : Nat) : Int) := IntWalk.u64_in _ (by omega)
  rw [h1, h2, h3, h4, u64_or_nat acc _ (by omega) (by omega)]
  have h5 : acc ||| 128 ^ k * (b % 128) = T := by
    rw [Nat.or_comm, hp, ← Nat.two_pow_add_eq_or_of_lt (by rw [← hp]; exact ha), ← hp]; omega
  rw [h5]
/-- What a reader panics with. -/
abbrev MAL : List PanicEntry := [{ v := .iface 172 (.agg #[]), recovered := false }]
/-- What reading ends in: a value, and the bytes behind it, or a panic; all blocks but the reader's are as they were. -/
def RdPost {α : Type} (g : Nat) (val : α → World → Value → Prop) (w : World) (o : Option (α × List Nat)) (e : Ending) (w' : World) : Prop :=
  Chg [g] w w' ∧ match o with
    | some (x, r) => ∃ v, e = .returned v ∧ val x w' v ∧ Rd w' g r
    | none => e = .panicked MAL
section
variable {k acc b : Nat} {l : List Nat}
theorem readK_nil (hk : k < 5) : readK (5 - k) k acc [] = none := by
  rw [show 5 - k = (4 - k) + 1 by omega]; rfl
theorem readK_cons (hk : k < 5) : readK (5 - k) k acc (b :: l) = if 128 ≤ b then readK (5 - (k + 1)) (k + 1) (acc + 128 ^ k * (b % 128)) l else if (b = 0 ∧ 0 < k) ∨ 4294967296 ≤ acc + 128 ^ k * b then none else some (acc + 128 ^ k * b, l) := by
  rw [show 5 - k = (4 - k) + 1 by omega, show 5 - (k + 1) = 4 - k by omega]; rfl
end
theorem rd_set {w : World} {g b c c1 : Nat} {bs : List Nat} {A A1 : Option Addr} (h1 : Blk w g 175 #[.slice A (b :: bs).length c]) (hr : Reads w g 1 A1 bs.length (bs.map bv)) (h2 : bs.length ≤ c1) (h3 : c1 ≤ maxLen) (h6 : bs.length ≤ 1073741824) (h4 : ∀ x ∈ bs, x < 256) : Rd (w.setCell ⟨g, 0, none⟩ (.slice A1 bs.length c1)) g bs :=
  ⟨A1, c1, by simpa using h1.set_ 0 (.slice A1 bs.length c1), hr.setCell (Nat.le_refl _) _, h2, h3, h6, h4⟩
set_option maxRecDepth 20000 in
set_option maxHeartbeats 4000000 in
theorem rnum_any (w : World) (g : Nat) (bs : List Nat) (h : Rd w g bs) :
    Calls Tryz.prog 113 #[wptr g] w (RdPost g (fun (n : Nat) _ v => v = .int .u32 n) w (readN bs)) := by
  have HH := Lib.hid h
  clear h
  obtain ⟨o, ho⟩ : ∃ o, readN bs = o := ⟨_, rfl⟩
  rw [ho]
  have HO := Lib.hid ho
  clear ho
  go_enter Tryz.func113, Tryz.ntmps113
  go_wp2
  go_loopw [3, 6] (fun a i wr => ∃ k acc : Nat, ∃ bs' : List Nat, k ≤ 5 ∧ i = .int .i64 k ∧ a = .int .u64 acc ∧ acc < 128 ^ k ∧ readK (5 - k) k acc bs' = o ∧ Rd wr g bs' ∧ Chg [g] w wr) (fun _ i _ => 5 - (RowKit.intOf i).toNat)
  case atStart => exact ⟨0, 0, bs, by omega, rfl, rfl, by decide, HO.out, HH.out, Chg.refl _ _⟩
  case round =>
    obtain ⟨k, acc, bs', hk, rfl, rfl, hacc, hrd, hr, hch⟩ := hrel
    obtain ⟨A, c, h1, h2, h3, h4, h6, h5⟩ := id hr
    have HRD := Lib.hid hrd; have HR := Lib.hid hr; have HCH := Lib.hid hch; have HACC := Lib.hid hacc; have H1 := Lib.hid h1; have H2 := Lib.hid h2; have H5 := Lib.hid h5; have H4 := Lib.hid h4
    have hc0 := h1.cell 0
    have hf0 := h1.frozen 0
    have hgl := h1.lt
    simp only [List.getElem?_toArray, List.getElem?_cons_zero] at hc0
    clear hrd hr hch hacc h2 h5 h1
    unfold maxLen at h4
    by_cases hlt : k < 5
    · have hkI : (k : Int) < 5 := by omega
      cases bs' with
      | nil =>
        have e := HRD.out
        rw [readK_nil hlt] at e
        subst e
        simp only [List.length_nil] at *
        go_wp2
        exact ⟨rfl, HCH.out, rfl⟩
      | cons b bs' =>
        have h2 := H2.out
        obtain ⟨ad, rfl, had, hcell⟩ := h2.2 (by simp)
        have hb0 : wr.cell? ad = some (bv b) := by have := hcell 0 _ rfl; simpa [Addr.add] using this
        obtain ⟨A1, hcut, hcr⟩ := cut_one ad bs'.length c (by simpa using h3)
        have hbb := H5.out b (List.mem_cons_self ..)
        have hrest := fun x hx => H5.out x (List.mem_cons_of_mem b hx)
        have hset : Rd (wr.setCell ⟨g, 0, none⟩ (.slice A1 bs'.length (c - 1))) g bs' := rd_set H1.out (hcr wr g _ _ (by simpa using h2)) (by simp only [List.length_cons] at h3; omega) (by have := H4.out; omega) (by simp only [List.length_cons] at h6; omega) hrest
        have hchs := HCH.out.setCell (p := ⟨g, 0, none⟩) (.inl (by simp)) (.slice A1 bs'.length (c - 1))
        have e := HRD.out
        rw [readK_cons hlt] at e
        obtain ⟨T, hT⟩ : ∃ T : Nat, acc + 128 ^ k * (b % 128) = T := ⟨_, rfl⟩
        have hTk : T < 128 ^ (k + 1) := by
          have h128 : 128 ^ k * (b % 128) ≤ 128 ^ k * 127 := Nat.mul_le_mul_left _ (by omega)
          have := HACC.out
          rw [← hT, Nat.pow_succ]; omega
        have hT35 : T < 34359738368 := Nat.lt_of_lt_of_le hTk (by
          have : 128 ^ (k + 1) ≤ 128 ^ 5 := Nat.pow_le_pow_right (by decide) (by omega)
          exact this)
        have hor := or_step (k := k) (b := b) HACC.out hT hbb hT35
        rw [hT] at e
        have HTK := Lib.hid hTk; have HSET := Lib.hid hset; have HCHS := Lib.hid hchs
        simp only [List.length_cons] at *
        clear hcr hcell h2 hTk hset hchs hrest
        by_cases h128 : 128 ≤ b
        · have h128I : (128 : Int) ≤ b := by omega
          rw [if_pos h128] at e
          have HE := Lib.hid e
          clear e hT
          go_wp2
          go_roundw
          case rel => exact ⟨k + 1, T, bs', by omega, by go_num, rfl, HTK.out, HE.out, HSET.out, HCHS.out⟩
          case measure => simp [RowKit.intOf]; omega
        · have h128I : ¬ (128 : Int) ≤ b := by omega
          rw [if_neg h128] at e
          have hTe : acc + 128 ^ k * b = T := by rw [← hT, Nat.mod_eq_of_lt (by omega)]
          rw [hTe] at e
          clear hT hTe
          by_cases hz : b = 0 ∧ 0 < k
          · have hz0 : ((b : Int) == 0) = true := by rw [beq_iff_eq]; omega
            have hkI0 : (0 : Int) < k := by omega
            rw [if_pos (.inl hz)] at e
            subst e
            clear hz
            go_wp2
            exact ⟨rfl, HCHS.out, rfl⟩
          · by_cases hbig : 4294967296 ≤ T
            · have hbI : ((T : Int) / 4294967296 != 0) = true := by rw [bne_iff_ne]; omega
              rw [if_pos (.inr hbig)] at e
              subst e
              by_cases hb0' : b = 0
              · have hz0 : ((b : Int) == 0) = true := by rw [beq_iff_eq]; omega
                have hkI0 : ¬ (0 : Int) < k := by omega
                clear hz hb0'
                go_wp2
                exact ⟨rfl, HCHS.out, rfl⟩
              · have hz0 : ((b : Int) == 0) = false := by rw [beq_eq_false_iff_ne]; omega
                clear hz hb0'
                go_wp2
                exact ⟨rfl, HCHS.out, rfl⟩
            · have hbI : ((T : Int) / 4294967296 != 0) = false := by rw [bne_eq_false_iff_eq]; omega
              have hmod : (T : Int) % 4294967296 = T := by omega
              rw [if_neg (by omega)] at e
              subst e
              by_cases hb0' : b = 0
              · have hz0 : ((b : Int) == 0) = true := by rw [beq_iff_eq]; omega
                have hkI0 : ¬ (0 : Int) < k := by omega
                clear hz hb0'
                go_wp2
                go_ret
                exact ⟨HCHS.out, _, rfl, rfl, HSET.out⟩
              · have hz0 : ((b : Int) == 0) = false := by rw [beq_eq_false_iff_ne]; omega
                clear hz hb0'
                go_wp2
                go_ret
                exact ⟨HCHS.out, _, rfl, rfl, HSET.out⟩
    · obtain rfl : k = 5 := by omega
      have e := HRD.out
      rw [show readK (5 - 5) 5 acc bs' = none from rfl] at e
      subst e
      go_wp2
      exact ⟨rfl, HCH.out, rfl⟩
end Go.Proofs.YtmepaeahchiglaaGreatDoor
namespace Go.Proofs.YtmepaeahchiglaaGreatDoor
open Go.RowKit Go.Lib

theorem Rd.bytes {w : World} {g : Nat} {bs : List Nat} (h : Rd w g bs) : bs.length ≤ 1073741824 := by
  obtain ⟨A, c, h1, h2, h3, h4, h6, h5⟩ := h; exact h6
theorem Rd.lenCell {w : World} {g : Nat} {bs : List Nat} (h : Rd w g bs) : ∃ A c, w.cell? ⟨g, 0, none⟩ = some (.slice A bs.length c) := by
  obtain ⟨A, c, h1, _⟩ := h
  exact ⟨A, c, by simpa using h1.cell 0⟩
theorem readN_lt {bs r : List Nat} {n : Nat} (h : readN bs = some (n, r)) (hb : ∀ b ∈ bs, b < 256) : n < 4294967296 := (readN_bytes hb h).2
theorem Rd.all {w : World} {g : Nat} {bs : List Nat} (h : Rd w g bs) : ∀ b ∈ bs, b < 256 := by
  obtain ⟨A, c, h1, h2, h3, h4, h6, h5⟩ := h; exact h5
def intV (n : Nat) (_ : World) (v : Value) : Prop := v = .int .i64 n
theorem rnum_some {w : World} {g n : Nat} {bs r : List Nat} (h : Rd w g bs) (hr : readN bs = some (n, r)) :
    Calls Tryz.prog 113 #[wptr g] w fun e w' => e = .returned (.int .u32 n) ∧ Rd w' g r ∧ Chg [g] w w' := by
  have := rnum_any w g bs h
  rw [hr] at this
  exact this.mono fun e w' ⟨h1, v, h2, h3, h4⟩ => ⟨by rw [h2, h3], h4, h1⟩
theorem rnum_none {w : World} {g : Nat} {bs : List Nat} (h : Rd w g bs) (hr : readN bs = none) :
    Calls Tryz.prog 113 #[wptr g] w fun e w' => e = .panicked MAL ∧ Chg [g] w w' := by
  have := rnum_any w g bs h
  rw [hr] at this
  exact this.mono fun e w' ⟨h1, h2⟩ => ⟨h2, h1⟩
set_option maxRecDepth 20000 in
theorem rcount_any (w : World) (g : Nat) (bs : List Nat) (h : Rd w g bs) :
    Calls Tryz.prog 148 #[wptr g] w (RdPost g intV w (countR bs)) := by
  cases hr : readN bs with
  | none =>
    have hc := rnum_none h hr
    rw [show countR bs = none from thenR_none hr]
    clear h hr
    go_enter Tryz.func148, Tryz.ntmps148
    go_wp2_with fail
    refine hc.mono ?_
    rintro e w1 ⟨rfl, h1⟩
    exact ⟨rfl, h1, rfl⟩
  | some q =>
    obtain ⟨n, r⟩ := q
    have hc := rnum_some h hr
    have hn := readN_lt hr h.all
    rw [show countR bs = (if n ≤ r.length then some (n, r) else none) from thenR_some hr]
    clear h hr
    by_cases hle : n ≤ r.length
    · rw [if_pos hle]
      go_enter Tryz.func148, Tryz.ntmps148
      go_wp2_with fail
      refine hc.mono ?_
      rintro e w1 ⟨rfl, h1, h2⟩
      obtain ⟨A, c, h3⟩ := h1.lenCell
      have hle' : ¬ ((r.length : Int) < (n : Int)) := by omega
      have H1 := Lib.hid h1; have H2 := Lib.hid h2
      clear h1 h2 hc hle
      go_wp2
      go_ret
      exact ⟨H2.out, _, rfl, rfl, H1.out⟩
    · rw [if_neg hle]
      go_enter Tryz.func148, Tryz.ntmps148
      go_wp2_with fail
      refine hc.mono ?_
      rintro e w1 ⟨rfl, h1, h2⟩
      obtain ⟨A, c, h3⟩ := h1.lenCell
      have hle' : (r.length : Int) < (n : Int) := by omega
      have H1 := Lib.hid h1; have H2 := Lib.hid h2
      clear h1 h2 hc hle
      go_wp2
      exact ⟨rfl, H2.out, rfl⟩
theorem rint_any (w : World) (g : Nat) (bs : List Nat) (h : Rd w g bs) :
    Calls Tryz.prog 138 #[wptr g] w (RdPost g intV w (readN bs)) := by
  cases hr : readN bs with
  | none =>
    have hc := rnum_none h hr
    clear h hr
    go_enter Tryz.func138, Tryz.ntmps138
    go_wp2_with fail
    refine hc.mono ?_
    rintro e w1 ⟨rfl, h1⟩
    exact ⟨rfl, h1, rfl⟩
  | some q =>
    obtain ⟨n, r⟩ := q
    have hc := rnum_some h hr
    have hn := readN_lt hr h.all
    clear h hr
    go_enter Tryz.func138, Tryz.ntmps138
    go_wp2_with fail
    refine hc.mono ?_
    rintro e w1 ⟨rfl, h1, h2⟩
    have H1 := Lib.hid h1; have H2 := Lib.hid h2
    clear h1 h2 hc
    go_wp2
    go_ret
    exact ⟨H2.out, _, rfl, rfl, H1.out⟩
def sndW (s : Snd) (_ : World) (v : Value) : Prop := v = sndV s
set_option maxRecDepth 20000 in
set_option maxHeartbeats 1000000 in
theorem rsnd_any (w : World) (g : Nat) (bs : List Nat) (h : Rd w g bs) :
    Calls Tryz.prog 76 #[wptr g] w (RdPost g sndW w (sndR bs)) := by
  have h0 := h.alloc (.cells #[.int .u32 0, .int .u32 0] 55)
  have hB := Blk.new w 55 #[.int .u32 0, .int .u32 0]
  have hch := (Chg.refl [g] w).alloc (.cells #[.int .u32 0, .int .u32 0] 55)
  have hgl := h.lt
  have HB := Lib.hid hB; have HCH := Lib.hid hch
  clear hB hch h
  unfold sndR pairR
  cases hr : readN bs with
  | none =>
    have hc := rnum_none h0 hr
    rw [thenR_none hr]
    clear h0 hr
    go_enter Tryz.func76, Tryz.ntmps76
    go_wp2_with fail
    refine hc.mono ?_
    rintro e w1 ⟨rfl, h1⟩
    exact ⟨rfl, HCH.out.trans h1, rfl⟩
  | some q =>
    obtain ⟨n, r⟩ := q
    have hc := rnum_some h0 hr
    rw [thenR_some hr]
    cases hr2 : readN r with
    | none =>
      rw [thenR_none hr2]
      have hc2 := fun W (hW : Rd W g r) => rnum_none hW hr2
      have HC2 := Lib.hid hc2
      clear h0 hr hc2
      go_enter Tryz.func76, Tryz.ntmps76
      go_wp2_with fail
      refine hc.mono ?_
      rintro e w1 ⟨rfl, h1, h2⟩
      go_wp2_with fail
      refine (HC2.out _ h1).mono ?_
      rintro e w2 ⟨rfl, h3⟩
      exact ⟨rfl, (HCH.out.trans h2).trans h3, rfl⟩
    | some q2 =>
      obtain ⟨n2, r2⟩ := q2
      rw [thenR_some hr2]
      have hc2 := fun W (hW : Rd W g r) => rnum_some hW hr2
      have HC2 := Lib.hid hc2
      clear h0 hr hc2 hr2
      go_enter Tryz.func76, Tryz.ntmps76
      go_wp2_with fail
      refine hc.mono ?_
      rintro e w1 ⟨rfl, h1, h2⟩
      have H1 := Lib.hid h1; have H2 := Lib.hid h2
      clear h1 h2 hc
      go_wp2_with fail
      refine (HC2.out _ H1.out).mono ?_
      rintro e w2 ⟨rfl, h3, h4⟩
      have hB2 := (HB.out.chg H2.out (by simp; omega)).chg h4 (by simp; omega)
      have hx0 := hB2.cell 0
      have hx1 := hB2.cell 1
      have hf0 := hB2.frozen 0
      have hf1 := hB2.frozen 1
      simp only [List.getElem?_toArray, List.getElem?_cons_zero, List.getElem?_cons_succ] at hx0 hx1
      have H3 := Lib.hid h3; have H4 := Lib.hid h4; have HB2 := Lib.hid hB2
      clear h3 h4 hB2
      have hB3 := (HB2.out.set_ 0 (.int .u32 n)).set_ 1 (.int .u32 n2)
      have hy0 := hB3.cell 0
      have hy1 := hB3.cell 1
      simp only [List.setIfInBounds_toArray, List.set_cons_zero, List.set_cons_succ, List.getElem?_toArray, List.getElem?_cons_zero, List.getElem?_cons_succ] at hy0 hy1
      have HY0 := Lib.hid hy0; have HY1 := Lib.hid hy1
      clear hB3 hy0 hy1
      go_wp2
      refine bodyPost_ret (v := sndV (n, n2)) (by simp [results, Tryz.results76, go_sem, HY0.out, HY1.out]) rfl ⟨?_, _, rfl, rfl, ?_⟩
      · exact (((HCH.out.trans H2.out).trans H4.out).setCell (.inr (by simp)) _).setCell (.inr (by simp)) _
      · exact (H3.out.chg ((Chg.refl [w.heap.size] w2).setCell (.inl (by simp)) _) (by simpa using hgl)).chg ((Chg.refl [w.heap.size] _).setCell (.inl (by simp)) _) (by simpa using hgl)
def flagR : Rdr Bool := thenR readN fun n r => if 1 < n then none else some (decide (n = 1), r)
def flagW (b : Bool) (_ : World) (v : Value) : Prop := v = .bool b
set_option maxRecDepth 20000 in
theorem rflag_any (w : World) (g : Nat) (bs : List Nat) (h : Rd w g bs) :
    Calls Tryz.prog 165 #[wptr g] w (RdPost g flagW w (flagR bs)) := by
  unfold flagR
  cases hr : readN bs with
  | none =>
    have hc := rnum_none h hr
    rw [thenR_none hr]
    clear h hr
    go_enter Tryz.func165, Tryz.ntmps165
    go_wp2_with fail
    refine hc.mono ?_
    rintro e w1 ⟨rfl, h1⟩
    exact ⟨rfl, h1, rfl⟩
  | some q =>
    obtain ⟨n, r⟩ := q
    have hc := rnum_some h hr
    rw [thenR_some hr]
    clear h hr
    by_cases h1 : 1 < n
    · rw [if_pos h1]
      have h1I : (1 : Int) < n := by omega
      go_enter Tryz.func165, Tryz.ntmps165
      go_wp2_with fail
      refine hc.mono ?_
      rintro e w1 ⟨rfl, h2, h3⟩
      have H3 := Lib.hid h3
      clear h2 h3
      go_wp2
      exact ⟨rfl, H3.out, rfl⟩
    · rw [if_neg h1]
      have h1I : ¬ (1 : Int) < n := by omega
      by_cases h2 : n = 1
      · rw [decide_eq_true h2]
        have h2I : ((n : Int) == 1) = true := by rw [beq_iff_eq]; omega
        clear h1 h2
        go_enter Tryz.func165, Tryz.ntmps165
        go_wp2_with fail
        refine hc.mono ?_
        rintro e w1 ⟨rfl, h2, h3⟩
        have H2 := Lib.hid h2; have H3 := Lib.hid h3
        clear h2 h3
        go_wp2
        go_ret
        exact ⟨H3.out, _, rfl, rfl, H2.out⟩
      · rw [decide_eq_false h2]
        have h2I : ((n : Int) == 1) = false := by rw [beq_eq_false_iff_ne]; omega
        clear h1 h2
        go_enter Tryz.func165, Tryz.ntmps165
        go_wp2_with fail
        refine hc.mono ?_
        rintro e w1 ⟨rfl, h2, h3⟩
        have H2 := Lib.hid h2; have H3 := Lib.hid h3
        clear h2 h3
        go_wp2
        go_ret
        exact ⟨H3.out, _, rfl, rfl, H2.out⟩
/-! Lists. -/
def preO {α : Type} (xs : List α) (o : Option (List α × List Nat)) : Option (List α × List Nat) := o.map fun p => (xs ++ p.1, p.2)
theorem preO_nil {α : Type} (o : Option (List α × List Nat)) : preO [] o = o := by cases o <;> rfl
theorem preO_none {α : Type} {xs : List α} {get : Rdr α} {b : List Nat} (n : Nat) (h : get b = none) : preO xs (manyR get (n + 1) b) = none := by
  show preO xs (thenR get _ b) = none
  rw [thenR_none h]; rfl
theorem preO_some {α : Type} {xs : List α} {get : Rdr α} {b r : List Nat} {x : α} (n : Nat) (h : get b = some (x, r)) : preO xs (manyR get (n + 1) b) = preO (xs ++ [x]) (manyR get n r) := by
  show preO xs (thenR get (fun x => thenR (manyR get n) fun l r => some (x :: l, r)) b) = _
  rw [thenR_some h]
  cases h2 : manyR get n r with
  | none => rw [thenR_none h2]; rfl
  | some q => obtain ⟨l, t⟩ := q; rw [thenR_some h2]; simp [preO]
theorem rsnd_some {w : World} {g : Nat} {s : Snd} {bs r : List Nat} (h : Rd w g bs) (hr : sndR bs = some (s, r)) :
    Calls Tryz.prog 76 #[wptr g] w fun e w' => e = .returned (sndV s) ∧ Rd w' g r ∧ Chg [g] w w' := by
  have := rsnd_any w g bs h
  rw [hr] at this
  exact this.mono fun e w' ⟨h1, v, h2, h3, h4⟩ => ⟨by rw [h2, h3], h4, h1⟩
theorem rsnd_none {w : World} {g : Nat} {bs : List Nat} (h : Rd w g bs) (hr : sndR bs = none) :
    Calls Tryz.prog 76 #[wptr g] w fun e w' => e = .panicked MAL ∧ Chg [g] w w' := by
  have := rsnd_any w g bs h
  rw [hr] at this
  exact this.mono fun e w' ⟨h1, h2⟩ => ⟨h2, h1⟩
theorem rcount_some {w : World} {g n : Nat} {bs r : List Nat} (h : Rd w g bs) (hr : countR bs = some (n, r)) :
    Calls Tryz.prog 148 #[wptr g] w fun e w' => e = .returned (.int .i64 n) ∧ Rd w' g r ∧ Chg [g] w w' := by
  have := rcount_any w g bs h
  rw [hr] at this
  exact this.mono fun e w' ⟨h1, v, h2, h3, h4⟩ => ⟨by rw [h2, h3], h4, h1⟩
theorem rcount_none {w : World} {g : Nat} {bs : List Nat} (h : Rd w g bs) (hr : countR bs = none) :
    Calls Tryz.prog 148 #[wptr g] w fun e w' => e = .panicked MAL ∧ Chg [g] w w' := by
  have := rcount_any w g bs h
  rw [hr] at this
  exact this.mono fun e w' ⟨h1, h2⟩ => ⟨h2, h1⟩
theorem countR_le {bs r : List Nat} {n : Nat} (h : countR bs = some (n, r)) : n ≤ r.length := by
  unfold countR at h
  obtain ⟨m, t, h1, h2⟩ := thenR_out h
  by_cases hle : m ≤ t.length
  · rw [if_pos hle] at h2
    injection h2 with h2
    obtain ⟨rfl, rfl⟩ := Prod.mk.inj h2
    exact hle
  · rw [if_neg hle] at h2; cases h2
theorem reads_newk (w : World) (t : TypeId) (cs : List Value) (k m : Nat) (h : cs.length = m * k) : Reads (w.alloc (.cells cs.toArray t)) (w.heap.size + 1) k (some ⟨w.heap.size, 0, none⟩) m cs := by
  refine ⟨h, fun _ => ⟨_, rfl, by simp, fun j u hu => ?_⟩⟩
  rw [add_at, (Blk.new w t cs.toArray).cell j]
  simpa using hu
theorem Chg.grown {S : List Nat} {a w w' : World} {row : Option Nat} (h : Chg S a w) (hg : w.grownBy w' row) (hr : ∀ k, row = some k → a.heap.size ≤ k) : Chg S a w' :=
  ⟨hg.os.trans h.os, hg.tape.trans h.tape, hg.output.trans h.output, Nat.le_trans h.size hg.size, fun k hk hs => (hg.block k (by have := h.size; omega) (fun e => by have := hr k e.symm; omega)).trans (h.block k hk hs)⟩
theorem Rd.grown {w w' : World} {g : Nat} {bs : List Nat} {row : Option Nat} (h : Rd w g bs) (hg : w.grownBy w' row) (hr : ∀ k, row = some k → g < k) : Rd w' g bs := by
  have hl := h.lt
  cases row with
  | none => exact h.chg (S := []) ⟨hg.os, hg.tape, hg.output, hg.size, fun k hk _ => hg.block k hk (by simp)⟩ (by simp)
  | some j => exact h.chg (S := [j]) ⟨hg.os, hg.tape, hg.output, hg.size, fun k hk hs => hg.block k hk (by simpa using hs)⟩ (by simpa using hr j rfl)
/-- A row of sounds in new memory. -/
def wordW (B : Nat) (ws : List Snd) (w : World) (v : Value) : Prop := w.ownsRow B 55 2 v ws.length (ws.flatMap sndC)
set_option maxRecDepth 20000 in
set_option maxHeartbeats 1000000 in
theorem rsome_any (w : World) (g : Nat) (bs : List Nat) (h : Rd w g bs) :
    Calls Tryz.prog 75 #[wptr g, .func (.func 76) #[wptr g] #[]] w (RdPost g (wordW w.heap.size) w (wordR bs)) := by
  obtain ⟨i0, hi, hz0, hz1, hz2⟩ := info_parts (show (Tryz.prog.info? 55).map (fun i => (i.zero, i.size, i.bytes)) = some (some (.agg #[.int .u32 0, .int .u32 0]), 2, 8) by kernel_rfl)
  have hgl := h.lt
  unfold wordR someR
  cases hr : countR bs with
  | none =>
    have hc := rcount_none h hr
    rw [thenR_none hr]
    clear h hr
    go_enter Tryz.func75, Tryz.ntmps75
    go_wp2_with fail
    refine hc.mono ?_
    rintro e w1 ⟨rfl, h1⟩
    exact ⟨rfl, h1, rfl⟩
  | some q =>
    obtain ⟨n, r⟩ := q
    have hc := rcount_some h hr
    have hn := countR_le hr
    rw [thenR_some hr]
    obtain ⟨o, ho⟩ : ∃ o, manyR sndR n r = o := ⟨_, rfl⟩
    rw [ho]
    have HO := Lib.hid ho
    clear h hr ho
    go_enter Tryz.func75, Tryz.ntmps75
    go_wp2_with fail
    refine hc.mono ?_
    rintro e w1 ⟨rfl, h1, h2⟩
    have hn30 : n ≤ 1073741824 := Nat.le_trans hn h1.bytes
    have H1 := Lib.hid h1; have H2 := Lib.hid h2
    clear h1 h2 hc
    go_wp2
    go_loopw [5, 8] (fun v i wr => ∃ k : Nat, ∃ xs : List Snd, ∃ b : List Nat, k ≤ n ∧ i = .int .i64 k ∧ xs.length = k ∧ wr.ownsRow w.heap.size 55 2 v k (xs.flatMap sndC) ∧ preO xs (manyR sndR (n - k) b) = o ∧ Rd wr g b ∧ Chg [g] w wr) (fun _ i _ => n - (RowKit.intOf i).toNat)
    case atStart => exact ⟨0, [], r, by omega, rfl, rfl, World.ownsRow_nil _ _ _ _, by rw [preO_nil]; exact HO.out, H1.out, H2.out⟩
    case round =>
      obtain ⟨k, xs, b, hk, rfl, hxl, hown, hpre, hr, hch⟩ := hrel
      have HXL := Lib.hid hxl; have HOWN := Lib.hid hown; have HR := Lib.hid hr; have HCH := Lib.hid hch
      clear hxl hown hr hch
      by_cases hlt : k < n
      · have hkI : (k : Int) < n := by omega
        rw [show n - k = (n - (k + 1)) + 1 by omega] at hpre
        cases hs : sndR b with
        | none =>
          rw [preO_none _ hs] at hpre
          subst hpre
          have hc2 := rsnd_none HR.out hs
          clear hs
          go_wp2_with fail
          refine hc2.mono ?_
          rintro e w2 ⟨rfl, h3⟩
          exact ⟨rfl, HCH.out.trans h3, rfl⟩
        | some q =>
          obtain ⟨s, b'⟩ := q
          rw [preO_some _ hs] at hpre
          have hc2 := rsnd_some HR.out hs
          have HP := Lib.hid hpre
          clear hs hpre
          go_wp2_with fail
          refine hc2.mono ?_
          rintro e w2 ⟨rfl, h3, h4⟩
          have hown2 := own_chg HOWN.out h4 (fun j hj hm => by
            have := HOWN.out.lt j hj
            simp at hm; omega)
          have hrn := reads_newk w2 55 (sndC s) 2 1 rfl
          have H3 := Lib.hid h3; have H4 := Lib.hid h4; have HOWN2 := Lib.hid hown2; have HRN := Lib.hid hrn
          have hsz := HCH.out.size
          have hsz2 := h4.size
          clear h3 h4 hown2 hrn hc2
          go_wp2_with (at_builtin; refine wpList_append_any _ rfl _ _ 59 rfl w.heap.size 55 i0 (.agg #[.int .u32 0, .int .u32 0]) 2 8 Tryz.underlying59 hi hz0 hz1 hz2 rfl (by decide) _ _ _ rfl (HOWN2.out.alloc _) _ _ _ _ (sndC s) rfl HRN.out (by simp [Value.oneCell']) (by unfold maxLen; omega) (by omega) (by simp; omega) ?_; intro v' w3 hown' hgrow hx'; clear hx')
          have hc3 : Chg [g] w w3 := ((HCH.out.trans H4.out).alloc _).grown hgrow (fun j hj => (HOWN2.out.lt j hj).1)
          have hr3 : Rd w3 g b' := (H3.out.alloc _).grown hgrow (fun j hj => by have := (HOWN2.out.lt j hj).1; omega)
          clear hgrow
          go_roundw
          case rel => exact ⟨k + 1, xs ++ [s], b', by omega, by go_num, by rw [List.length_append, HXL.out]; rfl, by rw [List.flatMap_append]; simpa using hown', HP.out, hr3, hc3⟩
          case measure => simp [RowKit.intOf]; omega
      · obtain rfl : k = n := by omega
        go_wp2
        go_ret
        rw [Nat.sub_self] at hpre
        have e : o = some (xs, b) := by rw [← hpre]; simp [preO, manyR]
        subst e
        refine ⟨HCH.out, _, rfl, ?_, HR.out⟩
        show World.ownsRow _ _ _ _ _ xs.length _
        rw [HXL.out]; exact HOWN.out
end Go.Proofs.YtmepaeahchiglaaGreatDoor
namespace Go.Proofs.YtmepaeahchiglaaGreatDoor
open Go.RowKit Go.Lib

end Go.Proofs.YtmepaeahchiglaaGreatDoor
