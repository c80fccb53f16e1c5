/-
 layer 43: bytes that are read: the reader's memory; number. Conditions: bytes that can be read.
-/
import Derived.Test.YtmepaeahchiglaaGreatDoorZdPkCk
set_option maxRecDepth 20000
set_option maxHeartbeats 4000000
namespace Go.Proofs.YtmepaeahchiglaaGreatDoor
open Go.RowKit Go.Lib
structure av (S : List Nat) (w w' : World) : Prop where
 os : w'.os = w.os
 tape : w'.tape = w.tape
 output : w'.output = w.output
 size : w.heap.size ≤ w'.heap.size
 block : ∀ k, k < w.heap.size → k ∉ S → w'.heap[k]? = w.heap[k]?
theorem av.refl (S : List Nat) (w : World) : av S w w := ⟨rfl, rfl, rfl, Nat.le_refl _, fun _ _ _ => rfl⟩
section
variable {S : List Nat} {a w w' : World}
theorem av.trans (h : av S a w) (k : av S w w') : av S a w' :=
 ⟨k.os.trans h.os, k.tape.trans h.tape, k.output.trans h.output, Nat.le_trans h.size k.size, fun i hi hs => (k.block i (Nat.lt_of_lt_of_le hi h.size) hs).trans (h.block i hi hs)⟩
theorem av.mono {T : List Nat} (h : av S a w) (hs : ∀ k ∈ S, k ∈ T) : av T a w := ⟨h.os, h.tape, h.output, h.size, fun k hk hn => h.block k hk (fun hm => hn (hs k hm))⟩
theorem av.alloc (h : av S a w) (o : Obj) : av S a (w.alloc o) :=
 h.trans ⟨rfl, rfl, rfl, by simp, fun _ hk _ => Below.heap_alloc _ _ _ hk⟩
theorem av.drew (h : av S a w) : av S a w.drew := ⟨h.os, h.tape, h.output, h.size, h.block⟩
theorem av.setCell (h : av S a w) {p : Addr} (hp : p.block ∈ S ∨ a.heap.size ≤ p.block) (u : Value) : av S a (w.setCell p u) :=
 ⟨h.os, h.tape, h.output, by have := h.size; simpa [World.setCell] using this, fun k hk hs => (Below.heap_setCell _ _ _ _ (by
   rintro rfl
   rcases hp with hp | hp
   ·exact hs hp
   ·omega)).trans (h.block k hk hs)⟩
theorem av.new (h : av S a w) {T : List Nat} (k : av T w w') (hT : ∀ i ∈ T, i ∈ S ∨ a.heap.size ≤ i) : av S a w' :=
 ⟨k.os.trans h.os, k.tape.trans h.tape, k.output.trans h.output, Nat.le_trans h.size k.size, fun i hi hs => (k.block i (Nat.lt_of_lt_of_le hi h.size) (fun hm => by
   rcases hT i hm with h1 | h1
   ·exact hs h1
   ·omega)).trans (h.block i hi hs)⟩
theorem av.below {B : Nat} (h : av S w w') (hB : ∀ i ∈ S, B ≤ i) (hw : B ≤ w.heap.size) : Below B w w' :=
 ⟨h.os, h.tape, h.output, h.size, fun k hk => h.block k (by omega) (fun hm => by have := hB k hm; omega)⟩
theorem Blk.aB {g : Nat} {t : TypeId} {cs : Array Value} (h : Blk w g t cs) (hc : av S w w') (hg : g ∉ S) : Blk w' g t cs := (hc.block g h.lt hg).trans h
theorem bY {base : Nat} {e : TypeId} {size n : Nat} {v : Value} {xs : List Value} (h : w.ownsRow base e size v n xs) (hc : av S w w') (hs : ∀ k, v.ownBlock = some k → k ∉ S) : w'.ownsRow base e size v n xs := by
 rcases h.2 with ⟨rfl, rfl⟩ | ⟨g, cap, cur, rfl, h1, h2, h3⟩
 ·exact ⟨h.1, .inl ⟨rfl, rfl⟩⟩
 ·have hg : g < w.heap.size := (h.lt g rfl).2
  exact ⟨h.1, .inr ⟨g, cap, cur, rfl, h1, (hc.block g hg (hs g rfl)).trans h2, h3⟩⟩
end
def Rd (w : World) (g : Nat) (bs : List Nat) : Prop :=
 ∃ A c, Blk w g 175 #[.slice A bs.length c] ∧ Reads w g 1 A bs.length (bs.map bv) ∧ bs.length ≤ c ∧ c ≤ maxLen ∧ bs.length ≤ 1073741824 ∧ ∀ b ∈ bs, b < 256
theorem Rd.lt {w : World} {g : Nat} {bs : List Nat} (h : Rd w g bs) : g < w.heap.size := by
 obtain ⟨A, c, h, _⟩ := h; exact h.lt
theorem Rd.alloc {w : World} {g : Nat} {bs : List Nat} (h : Rd w g bs) (o : Obj) : Rd (w.alloc o) g bs := by
 obtain ⟨A, c, h1, h2, h3⟩ := h
 exact ⟨A, c, h1.alloc o, h2.alloc (Nat.le_of_lt h1.lt) o, h3⟩
theorem Rd.aB {w w' : World} {g : Nat} {bs : List Nat} {S : List Nat} (h : Rd w g bs) (hc : av S w w') (hs : ∀ k ∈ S, g < k) : Rd w' g bs := by
 obtain ⟨A, c, h1, h2, h3⟩ := h
 have hl := h1.lt
 exact ⟨A, c, h1.aB hc (fun hm => Nat.lt_irrefl _ (hs g hm)), h2.below (hc.below (fun i hi => Nat.le_of_lt (hs i hi)) (by omega)), h3⟩
theorem zy (A : Option Addr) (n c k : Nat) (hk : k ≤ n) (hn : n ≤ c) : ∃ A1, (∀ W : World, (Instr.slice 36 (.slice A n c) (some (.int .i64 k)) none none).run Tryz.prog W = .ok (.slice A1 (n - k) (c - k)) W) ∧
 ∀ (W : World) (B : Nat) (xs : List Value), Reads W B 1 A n xs → Reads W B 1 A1 (n - k) (xs.drop k) := by
 refine ⟨if c = k then A else A.map (·.add (k * 1)), fun W => ?_, fun W B xs hr => by simpa using hr.cut (k := k) (cap := c) hk hn⟩
 obtain ⟨i0, hi, hz0, hz1, hz2⟩ := info_parts (show (Tryz.prog.info? 5).map (fun i => (i.zero, i.size, i.bytes)) = some (some (.int .u8 0), 1, 1) by kernel_rfl)
 have he : Tryz.prog.elem 36 = 5 := by kernel_rfl
 have hs : (sizeOf 5).run Tryz.prog W = .ok 1 W := by simp [sizeOf, typeInfo, hi, hz1]
 rw [run_slice_l W 36 A n c (by rw [he]; exact Tryz.underlying36) .i64 k (by omega) (by omega), he, hs]
 simp only [Result.andThen, sliced, Int.toNat_natCast]
theorem MJ (ad : Addr) (m c : Nat) (h : m + 1 ≤ c) : ∃ A1, (∀ W : World, (Instr.slice 36 (.slice (some ad) (m + 1) c) (some (.int .i64 1)) none none).run Tryz.prog W = .ok (.slice A1 m (c - 1)) W) ∧
 ∀ (W : World) (B : Nat) (x : Value) (xs : List Value), Reads W B 1 (some ad) (m + 1) (x :: xs) → Reads W B 1 A1 m xs := by
 obtain ⟨A1, h1, h2⟩ := zy (some ad) (m + 1) c 1 (by omega) h
 exact ⟨A1, h1, fun W B x xs hr => h2 W B _ hr⟩
theorem Mg {acc k b T : Nat} (ha : acc < 128 ^ k) (hT : acc + 128 ^ k * (b % 128) = T) (hb : b < 256) (RJ : T < 34359738368) :
 bits .or .u64 (acc : Int) (IntKind.u64.wrap (IntKind.u64.wrap (bits .and .u8 (b : Int) 127) * 2 ^ (7 * k))) = (T : Int) := by
 have h1 : bits .and .u8 (b : Int) 127 = ((b % 128 : Nat) : Int) := by
  have := u8_and_nat b 127 hb (by decide)
  rw [show b &&& 127 = b % 128 from Nat.and_two_pow_sub_one_eq_mod b 7] at this
  exact this
 have hp : (128 : Nat) ^ k = 2 ^ (7 * k) := by rw [Nat.pow_mul]
 have hle : 128 ^ k * (b % 128) ≤ T := by omega
 have h2 : IntKind.u64.wrap ((b % 128 : Nat) : Int) = ((b % 128 : Nat) : Int) := IntWalk.u64_in _ (by omega)
 have h3 : ((b % 128 : Nat) : Int) * 2 ^ (7 * k) = ((128 ^ k * (b % 128) : Nat) : Int) := by
  rw [hp, Nat.mul_comm (2 ^ (7 * k))]; simp
 have h4 : IntKind.u64.wrap ((128 ^ k * (b % 128) : Nat) : Int) = ((128 ^ k * (b % 128) : Nat) : Int) := IntWalk.u64_in _ (by omega)
 rw [h1, h2, h3, h4, u64_or_nat acc _ (by omega) (by omega)]
 have h5 : acc ||| 128 ^ k * (b % 128) = T := by
  rw [Nat.or_comm, hp, ← Nat.two_pow_add_eq_or_of_lt (by rw [← hp]; exact ha), ← hp]; omega
 rw [h5]
abbrev zI : List PanicEntry := [{ v := .iface 172 (.agg #[]), recovered := false }]
def jM {α : Type} (g : Nat) (val : α → World → Value → Prop) (w : World) (o : Option (α × List Nat)) (e : Ending) (w' : World) : Prop :=
 av [g] w w' ∧ match o with
  | some (x, r) => ∃ v, e = .returned v ∧ val x w' v ∧ Rd w' g r
  | none => e = .panicked zI
section
variable {k acc b : Nat} {l : List Nat}
theorem Dh : readK 0 k acc l = none := rfl
theorem xY (hk : k < 5) : readK (5 - k) k acc [] = none := by
 rw [show 5 - k = (4 - k) + 1 by omega]; rfl
theorem uK (hk : k < 5) : readK (5 - k) k acc (b :: l) = if 128 ≤ b then readK (5 - (k + 1)) (k + 1) (acc + 128 ^ k * (b % 128)) l else if (b = 0 ∧ 0 < k) ∨ 4294967296 ≤ acc + 128 ^ k * b then none else some (acc + 128 ^ k * b, l) := by
 rw [show 5 - k = (4 - k) + 1 by omega, show 5 - (k + 1) = 4 - k by omega]; rfl
end
theorem Ol {w : World} {g b c c1 : Nat} {bs : List Nat} {A A1 : Option Addr} (h1 : Blk w g 175 #[.slice A (b :: bs).length c]) (hr : Reads w g 1 A1 bs.length (bs.map bv)) (h2 : bs.length ≤ c1) (h3 : c1 ≤ maxLen) (h6 : bs.length ≤ 1073741824) (h4 : ∀ x ∈ bs, x < 256) : Rd (w.setCell ⟨g, 0, none⟩ (.slice A1 bs.length c1)) g bs :=
 ⟨A1, c1, by simpa using h1.set_ 0 (.slice A1 bs.length c1), hr.setCell (Nat.le_refl _) _, h2, h3, h6, h4⟩
theorem AV (w : World) (g : Nat) (bs : List Nat) (h : Rd w g bs) :
 Calls Tryz.prog 113 #[af g] w (jM g (fun (n : Nat) _ v => v = .int .u32 n) w (readN bs)) := by
 have HH := qh h
 clear h
 obtain ⟨o, ho⟩ : ∃ o, readN bs = o := ⟨_, rfl⟩
 rw [ho]
 have HO := qh ho
 clear ho
 go_enter Tryz.func113, Tryz.ntmps113
 go_wp2
 go_loopw [3, 6] (fun a i wr => ∃ k acc : Nat, ∃ bs' : List Nat, k ≤ 5 ∧ i = .int .i64 k ∧ a = .int .u64 acc ∧ acc < 128 ^ k ∧ readK (5 - k) k acc bs' = o ∧ Rd wr g bs' ∧ av [g] w wr) (fun _ i _ => 5 - (RowKit.intOf i).toNat)
 case atStart => exact ⟨0, 0, bs, by omega, rfl, rfl, by decide, HO.out, HH.out, av.refl _ _⟩
 case round =>
  obtain ⟨k, acc, bs', hk, rfl, rfl, hacc, hrd, hr, bQ⟩ := hrel
  obtain ⟨A, c, h1, h2, h3, h4, h6, h5⟩ := id hr
  have yM := qh hrd; have HR := qh hr; have bz := qh bQ; have Nq := qh hacc; have H1 := qh h1; have H2 := qh h2; have H5 := qh h5; have H4 := qh h4
  have hc0 := h1.cell 0
  have hf0 := h1.frozen 0
  have hgl := h1.lt
  simp only [gq2] at hc0
  clear hrd hr bQ hacc h2 h5 h1
  unfold maxLen at h4
  by_cases hlt : k < 5
  ·have cB : (k : Int) < 5 := by omega
   cases bs' with
   | nil =>
     have e := yM.out
     rw [xY hlt] at e
     subst e
     simp only [List.length_nil] at *
     go_wp2
     exact ⟨rfl, bz.out, rfl⟩
   | cons b bs' =>
     have h2 := H2.out
     obtain ⟨ad, rfl, had, hcell⟩ := h2.2 (by simp)
     have hb0 : wr.cell? ad = some (bv b) := by have := hcell 0 _ rfl; simpa [Addr.add] using this
     obtain ⟨A1, hcut, hcr⟩ := MJ ad bs'.length c (by simpa using h3)
     have hbb := H5.out b (List.mem_cons_self ..)
     have hrest := fun x hx => H5.out x (List.mem_cons_of_mem b hx)
     have hset : Rd (wr.setCell ⟨g, 0, none⟩ (.slice A1 bs'.length (c - 1))) g bs' := Ol H1.out (hcr wr g _ _ (by simpa using h2)) (by simp only [List.length_cons] at h3; omega) (by have := H4.out; omega) (by simp only [List.length_cons] at h6; omega) hrest
     have J6 := bz.out.setCell (p := ⟨g, 0, none⟩) (.inl (by simp)) (.slice A1 bs'.length (c - 1))
     have e := yM.out
     rw [uK hlt] at e
     obtain ⟨T, hT⟩ : ∃ T : Nat, acc + 128 ^ k * (b % 128) = T := ⟨_, rfl⟩
     have Xe : T < 128 ^ (k + 1) := by
      have h128 : 128 ^ k * (b % 128) ≤ 128 ^ k * 127 := Nat.mul_le_mul_left _ (by omega)
      have := Nq.out
      rw [← hT, Nat.pow_succ]; omega
     have RJ : T < 34359738368 := Nat.lt_of_lt_of_le Xe (by
      have : 128 ^ (k + 1) ≤ 128 ^ 5 := Nat.pow_le_pow_right (by decide) (by omega)
      exact this)
     have hor := Mg (k := k) (b := b) Nq.out hT hbb RJ
     rw [hT] at e
     have FD := qh Xe; have KP := qh hset; have Ia := qh J6
     simp only [List.length_cons] at *
     clear hcr hcell h2 Xe hset J6 hrest
     by_cases h128 : 128 ≤ b
     ·have Kc : (128 : Int) ≤ b := by omega
      rw [if_pos h128] at e
      have HE := qh e
      clear e hT
      go_wp2
      go_roundw
      case rel => exact ⟨k + 1, T, bs', by omega, by go_num, rfl, FD.out, HE.out, KP.out, Ia.out⟩
      case measure => simp [RowKit.intOf]; omega
     ·have Kc : ¬ (128 : Int) ≤ b := by omega
      rw [if_neg h128] at e
      have hTe : acc + 128 ^ k * b = T := by rw [← hT, Nat.mod_eq_of_lt (by omega)]
      rw [hTe] at e
      clear hT hTe
      by_cases hz : b = 0 ∧ 0 < k
      ·have hz0 : ((b : Int) == 0) = true := by rw [beq_iff_eq]; omega
       have Rp : (0 : Int) < k := by omega
       rw [if_pos (.inl hz)] at e
       subst e
       clear hz
       go_wp2
       exact ⟨rfl, Ia.out, rfl⟩
      ·by_cases hbig : 4294967296 ≤ T
       ·have RG : ((T : Int) / 4294967296 != 0) = true := by rw [bne_iff_ne]; omega
        rw [if_pos (.inr hbig)] at e
        subst e
        by_cases J9 : b = 0
        ·have hz0 : ((b : Int) == 0) = true := by rw [beq_iff_eq]; omega
         have Rp : ¬ (0 : Int) < k := by omega
         clear hz J9
         go_wp2
         exact ⟨rfl, Ia.out, rfl⟩
        ·have hz0 : ((b : Int) == 0) = false := by rw [beq_eq_false_iff_ne]; omega
         clear hz J9
         go_wp2
         exact ⟨rfl, Ia.out, rfl⟩
       ·have RG : ((T : Int) / 4294967296 != 0) = false := by rw [bne_eq_false_iff_eq]; omega
        have hmod : (T : Int) % 4294967296 = T := by omega
        rw [if_neg (by omega)] at e
        subst e
        by_cases J9 : b = 0
        ·have hz0 : ((b : Int) == 0) = true := by rw [beq_iff_eq]; omega
         have Rp : ¬ (0 : Int) < k := by omega
         clear hz J9
         go_wp2
         go_ret
         exact ⟨Ia.out, _, rfl, rfl, KP.out⟩
        ·have hz0 : ((b : Int) == 0) = false := by rw [beq_eq_false_iff_ne]; omega
         clear hz J9
         go_wp2
         go_ret
         exact ⟨Ia.out, _, rfl, rfl, KP.out⟩
  ·obtain rfl : k = 5 := by omega
   have e := yM.out
   rw [show readK (5 - 5) 5 acc bs' = none from rfl] at e
   subst e
   go_wp2
   exact ⟨rfl, bz.out, rfl⟩
theorem Rd.bytes {w : World} {g : Nat} {bs : List Nat} (h : Rd w g bs) : bs.length ≤ 1073741824 := by
 obtain ⟨A, c, h1, h2, h3, h4, h6, h5⟩ := h; exact h6
theorem Rd.E9 {w : World} {g : Nat} {bs : List Nat} (h : Rd w g bs) : ∃ A c, w.cell? ⟨g, 0, none⟩ = some (.slice A bs.length c) := by
 obtain ⟨A, c, h1, _⟩ := h
 exact ⟨A, c, by simpa using h1.cell 0⟩
theorem fJ {bs r : List Nat} {n : Nat} (h : readN bs = some (n, r)) (hb : ∀ b ∈ bs, b < 256) : n < 4294967296 := (readN_bytes hb h).2
theorem Rd.all {w : World} {g : Nat} {bs : List Nat} (h : Rd w g bs) : ∀ b ∈ bs, b < 256 := by
 obtain ⟨A, c, h1, h2, h3, h4, h6, h5⟩ := h; exact h5
def QX (n : Nat) (_ : World) (v : Value) : Prop := v = .int .i64 n
theorem gz {w : World} {g n : Nat} {bs r : List Nat} (h : Rd w g bs) (hr : readN bs = some (n, r)) :
 Calls Tryz.prog 113 #[af g] w fun e w' => e = .returned (.int .u32 n) ∧ Rd w' g r ∧ av [g] w w' := by
 have := AV w g bs h
 rw [hr] at this
 exact this.mono fun e w' ⟨h1, v, h2, h3, h4⟩ => ⟨by rw [h2, h3], h4, h1⟩
theorem gB {w : World} {g : Nat} {bs : List Nat} (h : Rd w g bs) (hr : readN bs = none) :
 Calls Tryz.prog 113 #[af g] w fun e w' => e = .panicked zI ∧ av [g] w w' := by
 have := AV w g bs h
 rw [hr] at this
 exact this.mono fun e w' ⟨h1, h2⟩ => ⟨h2, h1⟩
theorem uM (w : World) (g : Nat) (bs : List Nat) (h : Rd w g bs) :
 Calls Tryz.prog 148 #[af g] w (jM g QX w (countR bs)) := by
 cases hr : readN bs with
 | none =>
   have hc := gB h hr
   rw [show countR bs = none from thenR_none hr]
   clear h hr
   go_enter Tryz.func148, Tryz.ntmps148
   go_wp2_with fail
   refine hc.mono ?_
   rintro e w1 ⟨rfl, h1⟩
   exact ⟨rfl, h1, rfl⟩
 | some q =>
   obtain ⟨n, r⟩ := q
   have hc := gz h hr
   have hn := fJ hr h.all
   rw [show countR bs = (if n ≤ r.length then some (n, r) else none) from thenR_some hr]
   clear h hr
   by_cases hle : n ≤ r.length
   ·rw [if_pos hle]
    go_enter Tryz.func148, Tryz.ntmps148
    go_wp2_with fail
    refine hc.mono ?_
    rintro e w1 ⟨rfl, h1, h2⟩
    obtain ⟨A, c, h3⟩ := h1.E9
    have WR : ¬ ((r.length : Int) < (n : Int)) := by omega
    have H1 := qh h1; have H2 := qh h2
    clear h1 h2 hc hle
    go_wp2
    go_ret
    exact ⟨H2.out, _, rfl, rfl, H1.out⟩
   ·rw [if_neg hle]
    go_enter Tryz.func148, Tryz.ntmps148
    go_wp2_with fail
    refine hc.mono ?_
    rintro e w1 ⟨rfl, h1, h2⟩
    obtain ⟨A, c, h3⟩ := h1.E9
    have WR : (r.length : Int) < (n : Int) := by omega
    have H1 := qh h1; have H2 := qh h2
    clear h1 h2 hc hle
    go_wp2
    exact ⟨rfl, H2.out, rfl⟩
theorem uE (w : World) (g : Nat) (bs : List Nat) (h : Rd w g bs) :
 Calls Tryz.prog 138 #[af g] w (jM g QX w (readN bs)) := by
 cases hr : readN bs with
 | none =>
   have hc := gB h hr
   clear h hr
   go_enter Tryz.func138, Tryz.ntmps138
   go_wp2_with fail
   refine hc.mono ?_
   rintro e w1 ⟨rfl, h1⟩
   exact ⟨rfl, h1, rfl⟩
 | some q =>
   obtain ⟨n, r⟩ := q
   have hc := gz h hr
   have hn := fJ hr h.all
   clear h hr
   go_enter Tryz.func138, Tryz.ntmps138
   go_wp2_with fail
   refine hc.mono ?_
   rintro e w1 ⟨rfl, h1, h2⟩
   have H1 := qh h1; have H2 := qh h2
   clear h1 h2 hc
   go_wp2
   go_ret
   exact ⟨H2.out, _, rfl, rfl, H1.out⟩
def V3 (s : Snd) (_ : World) (v : Value) : Prop := v = jy s
theorem AQ (w : World) (g : Nat) (bs : List Nat) (h : Rd w g bs) :
 Calls Tryz.prog 76 #[af g] w (jM g V3 w (sndR bs)) := by
 have h0 := h.alloc (.cells #[.int .u32 0, .int .u32 0] 55)
 have hB := Blk.new w 55 #[.int .u32 0, .int .u32 0]
 have bQ := (av.refl [g] w).alloc (.cells #[.int .u32 0, .int .u32 0] 55)
 have hgl := h.lt
 have HB := qh hB; have bz := qh bQ
 clear hB bQ h
 unfold sndR pairR
 cases hr : readN bs with
 | none =>
   have hc := gB h0 hr
   rw [thenR_none hr]
   clear h0 hr
   go_enter Tryz.func76, Tryz.ntmps76
   go_wp2_with fail
   refine hc.mono ?_
   rintro e w1 ⟨rfl, h1⟩
   exact ⟨rfl, bz.out.trans h1, rfl⟩
 | some q =>
   obtain ⟨n, r⟩ := q
   have hc := gz h0 hr
   rw [thenR_some hr]
   cases hr2 : readN r with
   | none =>
     rw [thenR_none hr2]
     have hc2 := fun W (hW : Rd W g r) => gB hW hr2
     have ig := qh hc2
     clear h0 hr hc2
     go_enter Tryz.func76, Tryz.ntmps76
     go_wp2_with fail
     refine hc.mono ?_
     rintro e w1 ⟨rfl, h1, h2⟩
     go_wp2_with fail
     refine (ig.out _ h1).mono ?_
     rintro e w2 ⟨rfl, h3⟩
     exact ⟨rfl, (bz.out.trans h2).trans h3, rfl⟩
   | some q2 =>
     obtain ⟨n2, r2⟩ := q2
     rw [thenR_some hr2]
     have hc2 := fun W (hW : Rd W g r) => gz hW hr2
     have ig := qh hc2
     clear h0 hr hc2 hr2
     go_enter Tryz.func76, Tryz.ntmps76
     go_wp2_with fail
     refine hc.mono ?_
     rintro e w1 ⟨rfl, h1, h2⟩
     have H1 := qh h1; have H2 := qh h2
     clear h1 h2 hc
     go_wp2_with fail
     refine (ig.out _ H1.out).mono ?_
     rintro e w2 ⟨rfl, h3, h4⟩
     have hB2 := (HB.out.aB H2.out (by simp; omega)).aB h4 (by simp; omega)
     have hx0 := hB2.cell 0
     have hx1 := hB2.cell 1
     have hf0 := hB2.frozen 0
     have hf1 := hB2.frozen 1
     simp only [gq2] at hx0 hx1
     have H3 := qh h3; have H4 := qh h4; have HB2 := qh hB2
     clear h3 h4 hB2
     have hB3 := (HB2.out.set_ 0 (.int .u32 n)).set_ 1 (.int .u32 n2)
     have hy0 := hB3.cell 0
     have hy1 := hB3.cell 1
     simp only [gq1, gq2] at hy0 hy1
     have XI := qh hy0; have Qj := qh hy1
     clear hB3 hy0 hy1
     go_wp2
     refine bodyPost_ret (v := jy (n, n2)) (by simp [results, Tryz.results76, go_sem, XI.out, Qj.out]) rfl ⟨?_, _, rfl, rfl, ?_⟩
     ·exact (((bz.out.trans H2.out).trans H4.out).setCell (.inr (by simp)) _).setCell (.inr (by simp)) _
     ·exact (H3.out.aB ((av.refl [w.heap.size] w2).setCell (.inl (by simp)) _) (by simpa using hgl)).aB ((av.refl [w.heap.size] _).setCell (.inl (by simp)) _) (by simpa using hgl)
def jZ : Rdr Bool := thenR readN fun n r => if 1 < n then none else some (decide (n = 1), r)
def RZ (b : Bool) (_ : World) (v : Value) : Prop := v = .bool b
theorem xX (w : World) (g : Nat) (bs : List Nat) (h : Rd w g bs) :
 Calls Tryz.prog 165 #[af g] w (jM g RZ w (jZ bs)) := by
 unfold jZ
 cases hr : readN bs with
 | none =>
   have hc := gB h hr
   rw [thenR_none hr]
   clear h hr
   go_enter Tryz.func165, Tryz.ntmps165
   go_wp2_with fail
   refine hc.mono ?_
   rintro e w1 ⟨rfl, h1⟩
   exact ⟨rfl, h1, rfl⟩
 | some q =>
   obtain ⟨n, r⟩ := q
   have hc := gz h hr
   rw [thenR_some hr]
   clear h hr
   by_cases h1 : 1 < n
   ·rw [if_pos h1]
    have yz : (1 : Int) < n := by omega
    go_enter Tryz.func165, Tryz.ntmps165
    go_wp2_with fail
    refine hc.mono ?_
    rintro e w1 ⟨rfl, h2, h3⟩
    have H3 := qh h3
    clear h2 h3
    go_wp2
    exact ⟨rfl, H3.out, rfl⟩
   ·rw [if_neg h1]
    have yz : ¬ (1 : Int) < n := by omega
    by_cases h2 : n = 1
    ·rw [decide_eq_true h2]
     have vJ : ((n : Int) == 1) = true := by rw [beq_iff_eq]; omega
     clear h1 h2
     go_enter Tryz.func165, Tryz.ntmps165
     go_wp2_with fail
     refine hc.mono ?_
     rintro e w1 ⟨rfl, h2, h3⟩
     have H2 := qh h2; have H3 := qh h3
     clear h2 h3
     go_wp2
     go_ret
     exact ⟨H3.out, _, rfl, rfl, H2.out⟩
    ·rw [decide_eq_false h2]
     have vJ : ((n : Int) == 1) = false := by rw [beq_eq_false_iff_ne]; omega
     clear h1 h2
     go_enter Tryz.func165, Tryz.ntmps165
     go_wp2_with fail
     refine hc.mono ?_
     rintro e w1 ⟨rfl, h2, h3⟩
     have H2 := qh h2; have H3 := qh h3
     clear h2 h3
     go_wp2
     go_ret
     exact ⟨H3.out, _, rfl, rfl, H2.out⟩
def jO {α : Type} (xs : List α) (o : Option (List α × List Nat)) : Option (List α × List Nat) := o.map fun p => (xs ++ p.1, p.2)
theorem jD {α : Type} (o : Option (List α × List Nat)) : jO [] o = o := by cases o <;> rfl
theorem iB {α : Type} {xs : List α} {get : Rdr α} {b : List Nat} (n : Nat) (h : get b = none) : jO xs (manyR get (n + 1) b) = none := by
 show jO xs (thenR get _ b) = none
 rw [thenR_none h]; rfl
theorem iA {α : Type} {xs : List α} {get : Rdr α} {b r : List Nat} {x : α} (n : Nat) (h : get b = some (x, r)) : jO xs (manyR get (n + 1) b) = jO (xs ++ [x]) (manyR get n r) := by
 show jO xs (thenR get (fun x => thenR (manyR get n) fun l r => some (x :: l, r)) b) = _
 rw [thenR_some h]
 cases h2 : manyR get n r with
 | none => rw [thenR_none h2]; rfl
 | some q => obtain ⟨l, t⟩ := q; rw [thenR_some h2]; simp [jO]
theorem kK {w : World} {g : Nat} {s : Snd} {bs r : List Nat} (h : Rd w g bs) (hr : sndR bs = some (s, r)) :
 Calls Tryz.prog 76 #[af g] w fun e w' => e = .returned (jy s) ∧ Rd w' g r ∧ av [g] w w' := by
 have := AQ w g bs h
 rw [hr] at this
 exact this.mono fun e w' ⟨h1, v, h2, h3, h4⟩ => ⟨by rw [h2, h3], h4, h1⟩
theorem kL {w : World} {g : Nat} {bs : List Nat} (h : Rd w g bs) (hr : sndR bs = none) :
 Calls Tryz.prog 76 #[af g] w fun e w' => e = .panicked zI ∧ av [g] w w' := by
 have := AQ w g bs h
 rw [hr] at this
 exact this.mono fun e w' ⟨h1, h2⟩ => ⟨h2, h1⟩
theorem bM {w : World} {g n : Nat} {bs r : List Nat} (h : Rd w g bs) (hr : countR bs = some (n, r)) :
 Calls Tryz.prog 148 #[af g] w fun e w' => e = .returned (.int .i64 n) ∧ Rd w' g r ∧ av [g] w w' := by
 have := uM w g bs h
 rw [hr] at this
 exact this.mono fun e w' ⟨h1, v, h2, h3, h4⟩ => ⟨by rw [h2, h3], h4, h1⟩
theorem bN {w : World} {g : Nat} {bs : List Nat} (h : Rd w g bs) (hr : countR bs = none) :
 Calls Tryz.prog 148 #[af g] w fun e w' => e = .panicked zI ∧ av [g] w w' := by
 have := uM w g bs h
 rw [hr] at this
 exact this.mono fun e w' ⟨h1, h2⟩ => ⟨h2, h1⟩
theorem dC {bs r : List Nat} {n : Nat} (h : countR bs = some (n, r)) : n ≤ r.length := by
 unfold countR at h
 obtain ⟨m, t, h1, h2⟩ := thenR_out h
 by_cases hle : m ≤ t.length
 ·rw [if_pos hle] at h2
  injection h2 with h2
  obtain ⟨rfl, rfl⟩ := Prod.mk.inj h2
  exact hle
 ·rw [if_neg hle] at h2; cases h2
theorem az (w : World) (t : TypeId) (cs : List Value) (k m : Nat) (h : cs.length = m * k) : Reads (w.alloc (.cells cs.toArray t)) (w.heap.size + 1) k (some ⟨w.heap.size, 0, none⟩) m cs := by
 refine ⟨h, fun _ => ⟨_, rfl, by simp, fun j u hu => ?_⟩⟩
 rw [add_at, (Blk.new w t cs.toArray).cell j]
 simpa using hu
theorem av.grown {S : List Nat} {a w w' : World} {row : Option Nat} (h : av S a w) (hg : w.grownBy w' row) (hr : ∀ k, row = some k → a.heap.size ≤ k) : av S a w' :=
 ⟨hg.os.trans h.os, hg.tape.trans h.tape, hg.output.trans h.output, Nat.le_trans h.size hg.size, fun k hk hs => (hg.block k (by have := h.size; omega) (fun e => by have := hr k e.symm; omega)).trans (h.block k hk hs)⟩
theorem Rd.grown {w w' : World} {g : Nat} {bs : List Nat} {row : Option Nat} (h : Rd w g bs) (hg : w.grownBy w' row) (hr : ∀ k, row = some k → g < k) : Rd w' g bs := by
 have hl := h.lt
 cases row with
 | none => exact h.aB (S := []) ⟨hg.os, hg.tape, hg.output, hg.size, fun k hk _ => hg.block k hk (by simp)⟩ (by simp)
 | some j => exact h.aB (S := [j]) ⟨hg.os, hg.tape, hg.output, hg.size, fun k hk hs => hg.block k hk (by simpa using hs)⟩ (by simpa using hr j rfl)
def Aa (B : Nat) (ws : List Snd) (w : World) (v : Value) : Prop := w.ownsRow B 55 2 v ws.length (ws.flatMap gL)
theorem nA (w : World) (g : Nat) (bs : List Nat) (h : Rd w g bs) :
 Calls Tryz.prog 75 #[af g, .func (.func 76) #[af g] #[]] w (jM g (Aa w.heap.size) w (wordR bs)) := by
 obtain ⟨i0, hi, hz0, hz1, hz2⟩ := info_parts (show (Tryz.prog.info? 55).map (fun i => (i.zero, i.size, i.bytes)) = some (some (.agg #[.int .u32 0, .int .u32 0]), 2, 8) by kernel_rfl)
 have hgl := h.lt
 unfold wordR someR
 cases hr : countR bs with
 | none =>
   have hc := bN h hr
   rw [thenR_none hr]
   clear h hr
   go_enter Tryz.func75, Tryz.ntmps75
   go_wp2_with fail
   refine hc.mono ?_
   rintro e w1 ⟨rfl, h1⟩
   exact ⟨rfl, h1, rfl⟩
 | some q =>
   obtain ⟨n, r⟩ := q
   have hc := bM h hr
   have hn := dC hr
   rw [thenR_some hr]
   obtain ⟨o, ho⟩ : ∃ o, manyR sndR n r = o := ⟨_, rfl⟩
   rw [ho]
   have HO := qh ho
   clear h hr ho
   go_enter Tryz.func75, Tryz.ntmps75
   go_wp2_with fail
   refine hc.mono ?_
   rintro e w1 ⟨rfl, h1, h2⟩
   have hn30 : n ≤ 1073741824 := Nat.le_trans hn h1.bytes
   have H1 := qh h1; have H2 := qh h2
   clear h1 h2 hc
   go_wp2
   go_loopw [5, 8] (fun v i wr => ∃ k : Nat, ∃ xs : List Snd, ∃ b : List Nat, k ≤ n ∧ i = .int .i64 k ∧ xs.length = k ∧ wr.ownsRow w.heap.size 55 2 v k (xs.flatMap gL) ∧ jO xs (manyR sndR (n - k) b) = o ∧ Rd wr g b ∧ av [g] w wr) (fun _ i _ => n - (RowKit.intOf i).toNat)
   case atStart => exact ⟨0, [], r, by omega, rfl, rfl, World.ownsRow_nil _ _ _ _, by rw [jD]; exact HO.out, H1.out, H2.out⟩
   case round =>
    obtain ⟨k, xs, b, hk, rfl, hxl, hown, dM, hr, bQ⟩ := hrel
    have FB := qh hxl; have bD := qh hown; have HR := qh hr; have bz := qh bQ
    clear hxl hown hr bQ
    by_cases hlt : k < n
    ·have cB : (k : Int) < n := by omega
     rw [show n - k = (n - (k + 1)) + 1 by omega] at dM
     cases hs : sndR b with
     | none =>
       rw [iB _ hs] at dM
       subst dM
       have hc2 := kL HR.out hs
       clear hs
       go_wp2_with fail
       refine hc2.mono ?_
       rintro e w2 ⟨rfl, h3⟩
       exact ⟨rfl, bz.out.trans h3, rfl⟩
     | some q =>
       obtain ⟨s, b'⟩ := q
       rw [iA _ hs] at dM
       have hc2 := kK HR.out hs
       have HP := qh dM
       clear hs dM
       go_wp2_with fail
       refine hc2.mono ?_
       rintro e w2 ⟨rfl, h3, h4⟩
       have hown2 := bY bD.out h4 (fun j hj hm => by
        have := bD.out.lt j hj
        simp at hm; omega)
       have hrn := az w2 55 (gL s) 2 1 rfl
       have H3 := qh h3; have H4 := qh h4; have aL := qh hown2; have dR := qh hrn
       have hsz := bz.out.size
       have hsz2 := h4.size
       clear h3 h4 hown2 hrn hc2
       go_wp2_with (at_builtin; refine wpList_append_any _ rfl _ _ 59 rfl w.heap.size 55 i0 (.agg #[.int .u32 0, .int .u32 0]) 2 8 Tryz.underlying59 hi hz0 hz1 hz2 rfl (by decide) _ _ _ rfl (aL.out.alloc _) _ _ _ _ (gL s) rfl dR.out (by simp [Value.oneCell']) (by unfold maxLen; omega) (by omega) (by simp; omega) ?_; intro v' w3 ai ag bK; clear bK)
       have hc3 : av [g] w w3 := ((bz.out.trans H4.out).alloc _).grown ag (fun j hj => (aL.out.lt j hj).1)
       have hr3 : Rd w3 g b' := (H3.out.alloc _).grown ag (fun j hj => by have := (aL.out.lt j hj).1; omega)
       clear ag
       go_roundw
       case rel => exact ⟨k + 1, xs ++ [s], b', by omega, by go_num, by rw [List.length_append, FB.out]; rfl, by rw [List.flatMap_append]; simpa using ai, HP.out, hr3, hc3⟩
       case measure => simp [RowKit.intOf]; omega
    ·obtain rfl : k = n := by omega
     go_wp2
     go_ret
     rw [Nat.sub_self] at dM
     have e : o = some (xs, b) := by rw [← dM]; simp [jO, manyR]
     subst e
     refine ⟨bz.out, _, rfl, ?_, HR.out⟩
     show World.ownsRow _ _ _ _ _ xs.length _
     rw [FB.out]; exact bD.out
theorem LX {s t : Snd} : (((s.1 : Int) == (t.1 : Int)) && ((s.2 : Int) == (t.2 : Int))) = decide (s = t) := by
 rw [Bool.eq_iff_iff]
 simp only [Bool.and_eq_true, beq_iff_eq, decide_eq_true_eq, Prod.ext_iff]
 omega
end Go.Proofs.YtmepaeahchiglaaGreatDoor
namespace Go.Proofs.YtmepaeahchiglaaGreatDoor
def bs (s : ByteArray) : List UInt8 := s.data.toList
def dG (c : UInt8) : Bool := (decide (97 ≤ c.toNat) && decide (c.toNat ≤ 122)) || (decide (48 ≤ c.toNat) && decide (c.toNat ≤ 57))
def qW (c : UInt8) : Bool := [64, 63, 33, 38, 42, 36, 37].contains c
def tY (c : UInt8) : Bool := dG c || (decide (65 ≤ c.toNat) && decide (c.toNat ≤ 90)) || qW c
def kH (c : UInt8) : Bool := [58, 39, 34, 126, 94, 95, 61, 96].contains c
def gT (p : UInt8 → Bool) (most : Nat) (s : ByteArray) : Bool := decide (1 ≤ s.size) && decide (s.size ≤ most) && (bs s).all p
def dH (s : ByteArray) : Bool := gT dG 16 s && decide (57 < ((bs s).headD 0).toNat)
def iO (s : ByteArray) : Bool := gT tY 4 s
def eO (fs : List ByteArray) : Int := if 24 < fs.length then 12 else if fs.all dH then (if (fs.map bs).Nodup then 0 else 6) else 15
abbrev fw := ByteArray × Snd
def dJ (n : Nat) (s : Snd) : Bool := decide (s.1 &&& s.2 = 0 ∧ s.1 ||| s.2 < 2 ^ n)
def fH (L : List fw) (t : List UInt8) : Bool := L.any fun x => decide (bs x.1 = t)
def lI (L : List fw) (s : Snd) : Bool := L.any fun x => decide (x.2 = s)
def gX (n : Nat) (L : List fw) (sym : ByteArray) (s : Snd) : Int :=
 if iO sym then (if dJ n s then (if fH L (bs sym) || lI L s then 6 else if L.length = 256 then 4 else 0) else 14) else 15
def sO (n : Nat) (L : List fw) (x : fw) : List fw := if gX n L x.1 x.2 = 0 then L ++ [x] else L
structure Mk where
 text : ByteArray
 clear : Nat
 set : Snd
instance : Inhabited Mk := ⟨⟨⟨#[]⟩, 0, (0, 0)⟩⟩
def hasB (s : Snd) : Nat := s.1 ||| s.2
def gP (s : ByteArray) : Bool := gT kH 3 s
def gF (n : Nat) (pre : List Mk) (m : Mk) : Int :=
 if gP m.text then (if m.clear ||| hasB m.set < 2 ^ n ∧ m.clear &&& hasB m.set = 0 ∧ ax m.set = true then (if pre.any (fun y => decide (bs y.text = bs m.text)) then 6 else 0) else 2) else 15
def notE (n : Nat) : List Mk → List Mk → Int
 | _, [] => 0
 | pre, m :: r => if gF n pre m = 0 then notE n (pre ++ [m]) r else gF n pre m
def jd (n : Nat) (ms : List Mk) : Int := if 32 < ms.length then 12 else notE n [] ms
def EM (L : List fw) (t : List UInt8) (n : Nat) : Bool := decide (n ≤ t.length) && fH L (t.take n)
def Jo (L : List fw) (t : List UInt8) : Nat := if EM L t 4 then 4 else if EM L t 3 then 3 else if EM L t 2 then 2 else if EM L t 1 then 1 else 0
def sW (L : List fw) (t : List UInt8) : Snd := ((L.find? fun x => decide (bs x.1 = t)).map (·.2)).getD (0, 0)
def QH (b : Option Mk) : Nat := (b.map (·.text.size)).getD 0
def QJ (t : List UInt8) (b : Option Mk) (x : Mk) : Option Mk := if (bs x.text).isPrefixOf t && decide (QH b < x.text.size) then some x else b
def Ow (ms : List Mk) (t : List UInt8) : Option Mk := ms.foldl (QJ t) none
def TK (a b : Nat) : Nat := a &&& (4294967295 - b)
def Wl (s t : Snd) (set : Nat) : Snd := (TK s.1 set ||| (t.1 &&& set), TK s.2 set ||| (t.2 &&& set))
def dQ (x : Snd) (clear : Nat) (set : Snd) : Snd := if ax x = true ∧ ax set = true ∧ clear ≤ 16777215 ∧ clear &&& hasB set = 0 then Wl x set (clear ||| hasB set) else (0, 0)
def Jn (ms : List Mk) : Nat → List UInt8 → Snd → Nat → Snd × Nat
 | 0, _, x, n => (x, n)
 | k + 1, t, x, n => match Ow ms (t.drop n) with
   | none => (x, n)
   | some m => Jn ms k t (dQ x m.clear m.set) (n + m.text.size)
def Qy (L : List fw) (ms : List Mk) (t : List UInt8) : Option (Snd × Nat) := if Jo L t = 0 then none else some (Jn ms 4 t (sW L (t.take (Jo L t))) (Jo L t))
structure Un where
 x : Snd
 text : List UInt8
 at_ : Nat
def xO (at_ : Nat) (t : List UInt8) : Nat := if 0 < at_ ∧ t.head? = some 46 then 1 else 0
def Iz (L : List fw) (ms : List Mk) : Nat → Nat → List UInt8 → List Un
 | 0, _, _ => []
 | f + 1, k, t => if t = [] then [] else match Qy L ms (t.drop (xO k t)) with
   | none => [⟨(0, 0), [], k + xO k t⟩]
   | some (x, n) => ⟨x, (t.drop (xO k t)).take n, k + xO k t⟩ :: Iz L ms f (k + xO k t + n) (t.drop (xO k t + n))
structure Rs where
 w : List Snd
 texts : List (List UInt8)
 at_ : Nat
 e : Int
deriving DecidableEq
def Nu : List Un → List Snd → List (List UInt8) → Rs
 | [], w, ts => ⟨w, ts, 0, 0⟩
 | u :: r, w, ts => if u.text = [] then ⟨[], [], u.at_, 10⟩ else if w.length = 32 then ⟨[], [], u.at_, 11⟩ else Nu r (w ++ [u.x]) (ts ++ [u.text])
def Nt (L : List fw) (ms : List Mk) (t : List UInt8) : Rs := Nu (Iz L ms (t.length + 1) 0 t) [] []
def better (Ev t : List UInt8) : Bool := decide (Ev = []) || decide (t.length < Ev.length) || (decide (t.length = Ev.length) && decide (t < Ev))
def QW (L : List fw) (ms : List Mk) (s : Snd) (t : List UInt8) : Bool := decide ((Nt L ms t).e = 0) && decide ((Nt L ms t).w = [s])
def VY (L : List fw) (ms : List Mk) (s : Snd) (Ev t : List UInt8) : List UInt8 := if better Ev t && QW L ms s t then t else Ev
def cands1 (ms : List Mk) (sym : List UInt8) : List (List UInt8) := sym :: ms.flatMap fun a => (sym ++ bs a.text) :: ms.map fun b => sym ++ bs a.text ++ bs b.text
def Tx (L : List fw) (ms : List Mk) : List (List UInt8) := L.flatMap fun x => cands1 ms (bs x.1)
def TH (L : List fw) (ms : List Mk) (s : Snd) : List UInt8 := (Tx L ms).foldl (VY L ms s) []
open Go.RowKit
structure bA (S : Nat → Prop) (w w' : World) : Prop where
 os : w'.os = w.os
 tape : w'.tape = w.tape
 output : w'.output = w.output
 size : w.heap.size ≤ w'.heap.size
 block : ∀ k, k < w.heap.size → ¬ S k → w'.heap[k]? = w.heap[k]?
section
variable {S T : Nat → Prop} {a w w' : World}
theorem bA.refl (S : Nat → Prop) (w : World) : bA S w w := ⟨rfl, rfl, rfl, Nat.le_refl _, fun _ _ _ => rfl⟩
theorem bA.mono (h : bA S a w) (hs : ∀ k, k < a.heap.size → S k → T k) : bA T a w := ⟨h.os, h.tape, h.output, h.size, fun k hk hn => h.block k hk (fun hm => hn (hs k hk hm))⟩
theorem bA.new (h : bA S a w) (k : bA T w w') (hT : ∀ i, i < a.heap.size → T i → S i) : bA S a w' :=
 ⟨k.os.trans h.os, k.tape.trans h.tape, k.output.trans h.output, Nat.le_trans h.size k.size, fun i hi hs => (k.block i (Nat.lt_of_lt_of_le hi h.size) (fun hm => hs (hT i hi hm))).trans (h.block i hi hs)⟩
theorem bA.of_below (h : Below w.heap.size w w') : bA S w w' := ⟨h.os, h.tape, h.output, h.size, fun k hk _ => h.block k hk⟩
theorem bA.below {B : Nat} (h : bA S w w') (hB : ∀ i, S i → B ≤ i) (hw : B ≤ w.heap.size) : Below B w w' :=
 ⟨h.os, h.tape, h.output, h.size, fun k hk => h.block k (by omega) (fun hs => by have := hB k hs; omega)⟩
theorem bA.alloc (h : bA S a w) (o : Obj) : bA S a (w.alloc o) := h.new (T := fun _ => False) (.of_below ((Below.refl _ w).alloc (Nat.le_refl _) o)) (fun _ _ h => h.elim)
theorem bA.drewN (h : bA S a w) (n : Nat) : bA S a (w.drewN n) := ⟨h.os, h.tape, h.output, h.size, h.block⟩
theorem bA.setCell (h : bA S a w) {p : Addr} (hp : S p.block ∨ a.heap.size ≤ p.block) (u : Value) : bA S a (w.setCell p u) :=
 h.new (T := fun k => k = p.block) ⟨rfl, rfl, rfl, by simp [World.setCell], fun k _ hk => Below.heap_setCell w p u k hk⟩ (fun i hi e => by
  rcases hp with hp | hp
  ·rw [e]; exact hp
  ·omega)
theorem bA.grown (h : bA S a w) {row : Option Nat} (hg : w.grownBy w' row) (hr : ∀ k, row = some k → S k ∨ a.heap.size ≤ k) : bA S a w' :=
 h.new (T := fun k => row = some k) ⟨hg.os, hg.tape, hg.output, hg.size, fun k hk hs => hg.block k hk (fun e => hs e.symm)⟩ (fun i hi e => by
  rcases hr i e with h | h
  ·exact h
  ·omega)
theorem Blk.dQ {g : Nat} {t : TypeId} {cs : Array Value} (h : Blk w g t cs) (hc : bA S w w') (hg : ¬ S g) : Blk w' g t cs := (hc.block g h.lt hg).trans h
theorem bH {base : Nat} {e : TypeId} {size n : Nat} {v : Value} {xs : List Value} (h : w.ownsRow base e size v n xs) (hc : bA S w w') (hs : ∀ k, v.ownBlock = some k → ¬ S k) : w'.ownsRow base e size v n xs := by
 rcases h.2 with ⟨rfl, rfl⟩ | ⟨g, cap, cur, rfl, h1, h2, h3⟩
 ·exact ⟨h.1, .inl ⟨rfl, rfl⟩⟩
 ·have hlt : g < w.heap.size := (Array.getElem?_eq_some_iff.1 h2).1
  exact ⟨h.1, .inr ⟨g, cap, cur, rfl, h1, (hc.block g hlt (hs g rfl)).trans h2, h3⟩⟩
end
section
variable {S T : Nat → Prop} {w w' : World} {k n : Nat} {A : Option Addr} {xs : List Value}
end
open Go.Maps Go.WideMaps
theorem vD : Keyed Tryz.prog 9 := string_keyed Tryz.underlying9
def bC (w : World) (b n : Nat) (f : ByteArray → Option Int) : Prop :=
 ∃ D : DataW Unit, w.ownsMap Tryz.prog 9 (plainElem Tryz.prog 3) b n D ∧ IsMap D ∧
  ∀ s : ByteArray, has D (.string s.data.toList) = (f s).isSome ∧ ∀ v, f s = some v → D.atKey (.string s.data.toList) (.lit (.int .i64 0)) = .lit (.int .i64 v)
theorem bC.lt {w : World} {b n : Nat} {f : ByteArray → Option Int} (h : bC w b n f) : b < w.heap.size := by
 obtain ⟨D, h1, _⟩ := h; exact h1.lt
theorem bC.made (w : World) : bC (w.alloc (.map #[] 0)) w.heap.size 0 (fun _ => none) :=
 ⟨.map [], World.ownsMap_made w _ _ _, isMap_empty, fun s => ⟨rfl, fun v h => by cases h⟩⟩
theorem bC.kept {w w' : World} {b n : Nat} {f : ByteArray → Option Int} {row : Option Nat} (h : bC w b n f) (hg : w.grownBy w' row) (hne : some b ≠ row) : bC w' b n f := by
 obtain ⟨D, h1, h2⟩ := h; exact ⟨D, h1.kept hg hne, h2⟩
theorem bC.below {w w' : World} {b n : Nat} {f : ByteArray → Option Int} (h : bC w b n f) (hb : Below w.heap.size w w') : bC w' b n f :=
 h.kept (row := none) ⟨hb.os, hb.tape, hb.output, hb.size, fun i hi _ => hb.block i hi⟩ (by simp)
theorem bC.isMap {w : World} {b n : Nat} {f : ByteArray → Option Int} (h : bC w b n f) : ∃ es clock, w.heap[b]? = some (.map es clock) := by
 obtain ⟨D, ⟨es, clock, hb, _⟩, _⟩ := h; exact ⟨es, clock, hb⟩
theorem gm {s : ByteArray} (hs : s.size ≤ maxLen) : keyOf Tryz.prog 9 (.string s) = some (.string s.data.toList) := keyOf_string_mk Tryz.underlying9 hs
theorem mi (w : World) : (zeroValue 3).run Tryz.prog w = .ok (.int .i64 0) w := by kernel_rfl
theorem bC.look {w : World} {b n : Nat} {f : ByteArray → Option Int} (h : bC w b n f) (s : ByteArray) (hs : s.size ≤ maxLen) :
 (Instr.lookup 240 (.map (some b)) (.string s) true).run Tryz.prog w = .ok (.tuple #[.int .i64 ((f s).getD 0), .bool (f s).isSome]) w := by
 obtain ⟨D, h1, h2, h3⟩ := h
 obtain ⟨v, ps, hrun, hv⟩ := h1.look_ok vD Tryz.underlying240 (mi w) (plainElem_int (H := Unit) (a := 0) Tryz.underlying3 (by decide)) (gm hs)
 obtain ⟨c, rfl, hc, _⟩ := plainElem_int_inv Tryz.underlying3 hv
 simp only [Prod.mk.injEq] at hc
 rw [hrun, (h3 s).1]
 cases hf : f s with
 | none =>
   have hh : has D (.string s.data.toList) = false := by rw [(h3 s).1, hf]; rfl
   rw [atKey_of_not_has hh] at hc
   have : c = 0 := (Lit.int.inj (DataW.lit.inj hc.1)).2.symm
   subst this; simp only [Option.isSome_none, Option.getD_none]
 | some x =>
   rw [(h3 s).2 x hf] at hc
   have : c = x := (Lit.int.inj (DataW.lit.inj hc.1)).2.symm
   subst this; simp only [Option.isSome_some, Option.getD_some]
theorem lh {w : World} {ops : Array Oper} {rest : List Oper} {o : Oper} {a : Act} {Q : Exit → Act → World → Prop}
 (hg : o.guard = none) (m x v : Operand) (hop : o.op = Op.mapUpdate 240 m x v) (b n : Nat) (f : ByteArray → Option Int) (hm : a.eval m = .map (some b)) (h : bC w b n f) (hn : n < maxLen)
 (s : ByteArray) (hs : s.size ≤ maxLen) (i : Int) (hi : (Lit.int .i64 i).wf = true) (hx : a.eval x = .string s) (hv : a.eval v = .int .i64 i)
 (hK : ∀ w', bC w' b (n + 1) (fun t => if t = s then some i else f t) → w.grownBy w' (some b) → wpList Tryz.prog ops Q rest (a.put o.dst undef) w') :
 wpList Tryz.prog ops Q (o :: rest) a w := by
 obtain ⟨D, h1, h2, h3⟩ := h
 refine wpList_mapUpdate_own w hg m x v 240 hop 9 3 vD Tryz.underlying240 _ b n D hm h1 hn (.string s) (.int .i64 i) (.string s.data.toList) hx hv (gm hs) (.lit (.int .i64 i)) [] (plainElem_int Tryz.underlying3 hi) ?_
 intro w1 hown ag
 refine hK w1 ⟨_, hown, h2.put _ _, fun t => ?_⟩ ag
 have vH : WideAt.IsKeyLit (.string s.data.toList) := by first | trivial | rfl | (unfold WideAt.IsKeyLit; trivial)
 by_cases e : t = s
 ·subst e
  simp only [↓reduceIte]
  exact ⟨has_put_same h2 vH _, fun v hv => by injection hv with hv; subst hv; exact atKey_put_same h2 vH _ _⟩
 ·simp only [if_neg e]
  have hne : (Lit.string t.data.toList) ≠ .string s.data.toList := fun h => e (by
   injection h with h
   obtain ⟨⟨l⟩⟩ := t; obtain ⟨⟨l'⟩⟩ := s
   simp only at h; rw [h])
  rw [has_put_other hne, atKey_put_other hne]
  exact h3 t
end Go.Proofs.YtmepaeahchiglaaGreatDoor
