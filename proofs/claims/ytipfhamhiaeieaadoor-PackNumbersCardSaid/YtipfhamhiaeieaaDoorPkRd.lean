/-
  layer 43: bytes that are read: the reader's memory; number. Conditions: bytes that can be read.
-/
import Derived.Test.YtipfhamhiaeieaaDoorPkQ
import Derived.WalkSmall
namespace Go.Proofs.YtipfhamhiaeieaaDoor
open Go.RowKit Go.Lib

/-- All blocks but those of S are as they were. -/
structure Chg (S : List Nat) (w w' : World) : Prop where
  os : w'.os = w.os
  tape : w'.tape = w.tape
  output : w'.output = w.output
  size : w.heap.size ≤ w'.heap.size
  block : ∀ k, k < w.heap.size → k ∉ S → w'.heap[k]? = w.heap[k]?
theorem Chg.refl (S : List Nat) (w : World) : Chg S w w := ⟨rfl, rfl, rfl, Nat.le_refl _, fun _ _ _ => rfl⟩
section
variable {S : List Nat} {a w w' : World}
theorem Chg.trans (h : Chg S a w) (k : Chg S w w') : Chg S a w' :=
  ⟨k.os.trans h.os, k.tape.trans h.tape, k.output.trans h.output, Nat.le_trans h.size k.size, fun i hi hs => (k.block i (Nat.lt_of_lt_of_le hi h.size) hs).trans (h.block i hi hs)⟩
theorem Chg.mono {T : List Nat} (h : Chg S a w) (hs : ∀ k ∈ S, k ∈ T) : Chg T a w := ⟨h.os, h.tape, h.output, h.size, fun k hk hn => h.block k hk (fun hm => hn (hs k hm))⟩
theorem Chg.alloc (h : Chg S a w) (o : Obj) : Chg S a (w.alloc o) :=
  h.trans ⟨rfl, rfl, rfl, by simp, fun _ hk _ => Below.heap_alloc _ _ _ hk⟩
theorem Chg.drew (h : Chg S a w) : Chg S a w.drew := ⟨h.os, h.tape, h.output, h.size, h.block⟩
theorem Chg.setCell (h : Chg S a w) {p : Addr} (hp : p.block ∈ S ∨ a.heap.size ≤ p.block) (u : Value) : Chg S a (w.setCell p u) :=
  ⟨h.os, h.tape, h.output, by have := h.size; simpa [World.setCell] using this, fun k hk hs => (Below.heap_setCell _ _ _ _ (by
    rintro rfl
    rcases hp with hp | hp
    · exact hs hp
    · omega)).trans (h.block k hk hs)⟩
theorem Chg.of_below (h : Below w.heap.size w w') : Chg S w w' := ⟨h.os, h.tape, h.output, h.size, fun k hk _ => h.block k hk⟩
/-- What was changed there is new. -/
theorem Chg.new (h : Chg S a w) {T : List Nat} (k : Chg T w w') (hT : ∀ i ∈ T, i ∈ S ∨ a.heap.size ≤ i) : Chg S a w' :=
  ⟨k.os.trans h.os, k.tape.trans h.tape, k.output.trans h.output, Nat.le_trans h.size k.size, fun i hi hs => (k.block i (Nat.lt_of_lt_of_le hi h.size) (fun hm => by
    rcases hT i hm with h1 | h1
    · exact hs h1
    · omega)).trans (h.block i hi hs)⟩
theorem Chg.below {B : Nat} (h : Chg S w w') (hB : ∀ i ∈ S, B ≤ i) (hw : B ≤ w.heap.size) : Below B w w' :=
  ⟨h.os, h.tape, h.output, h.size, fun k hk => h.block k (by omega) (fun hm => by have := hB k hm; omega)⟩
theorem Blk.chg {g : Nat} {t : TypeId} {cs : Array Value} (h : Blk w g t cs) (hc : Chg S w w') (hg : g ∉ S) : Blk w' g t cs := (hc.block g h.lt hg).trans h
theorem own_chg {base : Nat} {e : TypeId} {size n : Nat} {v : Value} {xs : List Value} (h : w.ownsRow base e size v n xs) (hc : Chg S w w') (hs : ∀ k, v.ownBlock = some k → k ∉ S) : w'.ownsRow base e size v n xs := by
  rcases h.2 with ⟨rfl, rfl⟩ | ⟨g, cap, cur, rfl, h1, h2, h3⟩
  · exact ⟨h.1, .inl ⟨rfl, rfl⟩⟩
  · have hg : g < w.heap.size := (h.lt g rfl).2
    exact ⟨h.1, .inr ⟨g, cap, cur, rfl, h1, (hc.block g hg (hs g rfl)).trans h2, h3⟩⟩
end
def RT : Nat := 106
/-- The bytes that are left, behind a reader's pointer. -/
def Rd (w : World) (g : Nat) (bs : List Nat) : Prop :=
  ∃ A c, Blk w g 106 #[.slice A bs.length c] ∧ Reads w g 1 A bs.length (bs.map bv) ∧ bs.length ≤ c ∧ c ≤ maxLen ∧ bs.length ≤ 1073741824 ∧ ∀ b ∈ bs, b < 256
theorem Rd.lt {w : World} {g : Nat} {bs : List Nat} (h : Rd w g bs) : g < w.heap.size := by
  obtain ⟨A, c, h, _⟩ := h; exact h.lt
theorem Rd.alloc {w : World} {g : Nat} {bs : List Nat} (h : Rd w g bs) (o : Obj) : Rd (w.alloc o) g bs := by
  obtain ⟨A, c, h1, h2, h3⟩ := h
  exact ⟨A, c, h1.alloc o, h2.alloc (Nat.le_of_lt h1.lt) o, h3⟩
theorem Rd.chg {w w' : World} {g : Nat} {bs : List Nat} {S : List Nat} (h : Rd w g bs) (hc : Chg S w w') (hs : ∀ k ∈ S, g < k) : Rd w' g bs := by
  obtain ⟨A, c, h1, h2, h3⟩ := h
  have hl := h1.lt
  exact ⟨A, c, h1.chg hc (fun hm => Nat.lt_irrefl _ (hs g hm)), h2.below (hc.below (fun i hi => Nat.le_of_lt (hs i hi)) (by omega)), h3⟩
/-- What is behind the first k bytes. -/
theorem cut_at (A : Option Addr) (n c k : Nat) (hk : k ≤ n) (hn : n ≤ c) : ∃ A1, (∀ W : World, (Instr.slice 35 (.slice A n c) (some (.int .i64 k)) none none).run Tryd.prog W = .ok (.slice A1 (n - k) (c - k)) W) ∧
    ∀ (W : World) (B : Nat) (xs : List Value), Reads W B 1 A n xs → Reads W B 1 A1 (n - k) (xs.drop k) := by
  refine ⟨if c = k then A else A.map (·.add (k * 1)), fun W => ?_, fun W B xs hr => by simpa using hr.cut (k := k) (cap := c) hk hn⟩
  obtain ⟨i0, hi, hz0, hz1, hz2⟩ := info_parts (show (Tryd.prog.info? 5).map (fun i => (i.zero, i.size, i.bytes)) = some (some (.int .u8 0), 1, 1) by kernel_rfl)
  have he : Tryd.prog.elem 35 = 5 := by kernel_rfl
  have hs : (sizeOf 5).run Tryd.prog W = .ok 1 W := by simp [sizeOf, typeInfo, hi, hz1]
  rw [run_slice_l W 35 A n c (by rw [he]; exact Tryd.underlying35) .i64 k (by omega) (by omega), he, hs]
  simp only [Result.andThen, sliced, Int.toNat_natCast]
theorem cut_one (ad : Addr) (m c : Nat) (h : m + 1 ≤ c) : ∃ A1, (∀ W : World, (Instr.slice 35 (.slice (some ad) (m + 1) c) (some (.int .i64 1)) none none).run Tryd.prog W = .ok (.slice A1 m (c - 1)) W) ∧
    ∀ (W : World) (B : Nat) (x : Value) (xs : List Value), Reads W B 1 (some ad) (m + 1) (x :: xs) → Reads W B 1 A1 m xs := by
  obtain ⟨A1, h1, h2⟩ := cut_at (some ad) (m + 1) c 1 (by omega) h
  exact ⟨A1, h1, fun W B x xs hr => h2 W B _ hr⟩
theorem or_step {acc k b T : Nat} (ha : acc < 128 ^ k) (hT : acc + 128 ^ k * (b % 128) = T) (hb : b < 256) (hT35 : T < 34359738368) :
    bits .or .u64 (acc : Int) (IntKind.u64.wrap (IntKind.u64.wrap (bits .and .u8 (b : Int) 127) * 2 ^ (7 * k))) = (T : Int) := by
  have h1 : bits .and .u8 (b : Int) 127 = ((b % 128 : Nat) : Int) := by
    have := u8_and_nat b 127 hb (by decide)
    rw [show b &&& 127 = b % 128 from Nat.and_two_pow_sub_one_eq_mod b 7] at this
    exact this
  have hp : (128 : Nat) ^ k = 2 ^ (7 * k) := by rw [Nat.pow_mul]
  have hle : 128 ^ k * (b % 128) ≤ T := by omega
  have h2 : IntKind.u64.wrap ((b % 128 : Nat) : Int) = ((b % 128 : Nat) : Int) := IntWalk.u64_in _ (by omega)
  have h3 : ((b % 128 : Nat) : Int) * 2 ^ (7 * k) = ((128 ^ k * (b % 128) : Nat) : Int) := by
    rw [hp, Nat.mul_comm (2 ^ (7 * k))]; simp
  have h4 : IntKind.u64.wrap ((128 ^ k * (b % 128) : Nat) : Int) = ((128 ^ k * (b % 128) : Nat) : Int) := IntWalk.u64_in _ (by omega)
  rw [h1, h2, h3, h4, u64_or_nat acc _ (by omega) (by omega)]
  have h5 : acc ||| 128 ^ k * (b % 128) = T := by
    rw [Nat.or_comm, hp, ← Nat.two_pow_add_eq_or_of_lt (by rw [← hp]; exact ha), ← hp]; omega
  rw [h5]
/-- What a reader panics with. -/
abbrev MAL : List PanicEntry := [{ v := .iface 103 (.agg #[]), recovered := false }]
/-- What reading ends in: a value, and the bytes behind it, or a panic; all blocks but the reader's are as they were. -/
def RdPost {α : Type} (g : Nat) (val : α → World → Value → Prop) (w : World) (o : Option (α × List Nat)) (e : Ending) (w' : World) : Prop :=
  Chg [g] w w' ∧ match o with
    | some (x, r) => ∃ v, e = .returned v ∧ val x w' v ∧ Rd w' g r
    | none => e = .panicked MAL
section
variable {k acc b : Nat} {l : List Nat}
theorem readK_zero : readK 0 k acc l = none := rfl
theorem readK_nil (hk : k < 5) : readK (5 - k) k acc [] = none := by
  rw [show 5 - k = (4 - k) + 1 by omega]; rfl
theorem readK_cons (hk : k < 5) : readK (5 - k) k acc (b :: l) = if 128 ≤ b then readK (5 - (k + 1)) (k + 1) (acc + 128 ^ k * (b % 128)) l else if (b = 0 ∧ 0 < k) ∨ 4294967296 ≤ acc + 128 ^ k * b then none else some (acc + 128 ^ k * b, l) := by
  rw [show 5 - k = (4 - k) + 1 by omega, show 5 - (k + 1) = 4 - k by omega]; rfl
end
theorem rd_set {w : World} {g b c c1 : Nat} {bs : List Nat} {A A1 : Option Addr} (h1 : Blk w g 106 #[.slice A (b :: bs).length c]) (hr : Reads w g 1 A1 bs.length (bs.map bv)) (h2 : bs.length ≤ c1) (h3 : c1 ≤ maxLen) (h6 : bs.length ≤ 1073741824) (h4 : ∀ x ∈ bs, x < 256) : Rd (w.setCell ⟨g, 0, none⟩ (.slice A1 bs.length c1)) g bs :=
  ⟨A1, c1, by simpa using h1.set_ 0 (.slice A1 bs.length c1), hr.setCell (Nat.le_refl _) _, h2, h3, h6, h4⟩
set_option maxRecDepth 20000 in
set_option maxHeartbeats 4000000 in
theorem rnum_any (w : World) (g : Nat) (bs : List Nat) (h : Rd w g bs) :
    Calls Tryd.prog 76 #[wptr g] w (RdPost g (fun (n : Nat) _ v => v = .int .u32 n) w (readN bs)) := by
  have HH := Lib.hid h
  clear h
  obtain ⟨o, ho⟩ : ∃ o, readN bs = o := ⟨_, rfl⟩
  rw [ho]
  have HO := Lib.hid ho
  clear ho
  go_enter Tryd.func76, Tryd.ntmps76
  go_wp2
  go_loopw [3, 6] (fun a i wr => ∃ k acc : Nat, ∃ bs' : List Nat, k ≤ 5 ∧ i = .int .i64 k ∧ a = .int .u64 acc ∧ acc < 128 ^ k ∧ readK (5 - k) k acc bs' = o ∧ Rd wr g bs' ∧ Chg [g] w wr) (fun _ i _ => 5 - (intOf i).toNat)
  case atStart => exact ⟨0, 0, bs, by omega, rfl, rfl, by decide, HO.out, HH.out, Chg.refl _ _⟩
  case round =>
    obtain ⟨k, acc, bs', hk, rfl, rfl, hacc, hrd, hr, hch⟩ := hrel
    obtain ⟨A, c, h1, h2, h3, h4, h6, h5⟩ := id hr
    have HRD := Lib.hid hrd; have HR := Lib.hid hr; have HCH := Lib.hid hch; have HACC := Lib.hid hacc; have H1 := Lib.hid h1; have H2 := Lib.hid h2; have H5 := Lib.hid h5; have H4 := Lib.hid h4
    have hc0 := h1.cell 0
    have hf0 := h1.frozen 0
    have hgl := h1.lt
    simp only [List.getElem?_toArray, List.getElem?_cons_zero] at hc0
    clear hrd hr hch hacc h2 h5 h1
    unfold maxLen at h4
    by_cases hlt : k < 5
    · have hkI : (k : Int) < 5 := by omega
      cases bs' with
      | nil =>
        have e := HRD.out
        rw [readK_nil hlt] at e
        subst e
        simp only [List.length_nil] at *
        go_wp2
        exact ⟨rfl, HCH.out, rfl⟩
      | cons b bs' =>
        have h2 := H2.out
        obtain ⟨ad, rfl, had, hcell⟩ := h2.2 (by simp)
        have hb0 : wr.cell? ad = some (bv b) := by have := hcell 0 _ rfl; simpa [Addr.add] using this
        obtain ⟨A1, hcut, hcr⟩ := cut_one ad bs'.length c (by simpa using h3)
        have hbb := H5.out b (List.mem_cons_self ..)
        have hrest := fun x hx => H5.out x (List.mem_cons_of_mem b hx)
        have hset : Rd (wr.setCell ⟨g, 0, none⟩ (.slice A1 bs'.length (c - 1))) g bs' := rd_set H1.out (hcr wr g _ _ (by simpa using h2)) (by simp only [List.length_cons] at h3; omega) (by have := H4.out; omega) (by simp only [List.length_cons] at h6; omega) hrest
        have hchs := HCH.out.setCell (p := ⟨g, 0, none⟩) (.inl (by simp)) (.slice A1 bs'.length (c - 1))
        have e := HRD.out
        rw [readK_cons hlt] at e
        obtain ⟨T, hT⟩ : ∃ T : Nat, acc + 128 ^ k * (b % 128) = T := ⟨_, rfl⟩
        have hTk : T < 128 ^ (k + 1) := by
          have h128 : 128 ^ k * (b % 128) ≤ 128 ^ k * 127 := Nat.mul_le_mul_left _ (by omega)
          have := HACC.out
          rw [← hT, Nat.pow_succ]; omega
        have hT35 : T < 34359738368 := Nat.lt_of_lt_of_le hTk (by
          have : 128 ^ (k + 1) ≤ 128 ^ 5 := Nat.pow_le_pow_right (by decide) (by omega)
          exact this)
        have hor := or_step (k := k) (b := b) HACC.out hT hbb hT35
        rw [hT] at e
        have HTK := Lib.hid hTk; have HSET := Lib.hid hset; have HCHS := Lib.hid hchs
        simp only [List.length_cons] at *
        clear hcr hcell h2 hTk hset hchs hrest
        by_cases h128 : 128 ≤ b
        · have h128I : (128 : Int) ≤ b := by omega
          rw [if_pos h128] at e
          have HE := Lib.hid e
          clear e hT
          go_wp2
          go_roundw
          case rel => exact ⟨k + 1, T, bs', by omega, by go_num, rfl, HTK.out, HE.out, HSET.out, HCHS.out⟩
          case measure => simp [intOf]; omega
        · have h128I : ¬ (128 : Int) ≤ b := by omega
          rw [if_neg h128] at e
          have hTe : acc + 128 ^ k * b = T := by rw [← hT, Nat.mod_eq_of_lt (by omega)]
          rw [hTe] at e
          clear hT hTe
          by_cases hz : b = 0 ∧ 0 < k
          · have hz0 : ((b : Int) == 0) = true := by rw [beq_iff_eq]; omega
            have hkI0 : (0 : Int) < k := by omega
            rw [if_pos (.inl hz)] at e
            subst e
            clear hz
            go_wp2
            exact ⟨rfl, HCHS.out, rfl⟩
          · by_cases hbig : 4294967296 ≤ T
            · have hbI : ((T : Int) / 4294967296 != 0) = true := by rw [bne_iff_ne]; omega
              rw [if_pos (.inr hbig)] at e
              subst e
              by_cases hb0' : b = 0
              · have hz0 : ((b : Int) == 0) = true := by rw [beq_iff_eq]; omega
                have hkI0 : ¬ (0 : Int) < k := by omega
                clear hz hb0'
                go_wp2
                exact ⟨rfl, HCHS.out, rfl⟩
              · have hz0 : ((b : Int) == 0) = false := by rw [beq_eq_false_iff_ne]; omega
                clear hz hb0'
                go_wp2
                exact ⟨rfl, HCHS.out, rfl⟩
            · have hbI : ((T : Int) / 4294967296 != 0) = false := by rw [bne_eq_false_iff_eq]; omega
              have hmod : (T : Int) % 4294967296 = T := by omega
              rw [if_neg (by omega)] at e
              subst e
              by_cases hb0' : b = 0
              · have hz0 : ((b : Int) == 0) = true := by rw [beq_iff_eq]; omega
                have hkI0 : ¬ (0 : Int) < k := by omega
                clear hz hb0'
                go_wp2
                go_ret
                exact ⟨HCHS.out, _, rfl, rfl, HSET.out⟩
              · have hz0 : ((b : Int) == 0) = false := by rw [beq_eq_false_iff_ne]; omega
                clear hz hb0'
                go_wp2
                go_ret
                exact ⟨HCHS.out, _, rfl, rfl, HSET.out⟩
    · obtain rfl : k = 5 := by omega
      have e := HRD.out
      rw [show readK (5 - 5) 5 acc bs' = none from rfl] at e
      subst e
      go_wp2
      exact ⟨rfl, HCH.out, rfl⟩
end Go.Proofs.YtipfhamhiaeieaaDoor
