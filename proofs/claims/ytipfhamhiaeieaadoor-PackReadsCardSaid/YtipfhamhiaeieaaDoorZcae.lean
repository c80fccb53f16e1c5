/-
  layer 43: the reference's Number, count, sound, word, text, PutWord. Conditions: numbers of 32 bits; lists of the reach.
-/
import Derived.Test.YtipfhamhiaeieaaDoorZcad
import Derived.Deep.RegionWith
import Derived.Deep.RegionLaw
import Derived.WalkSmall
namespace Go.Proofs.YtipfhamhiaeieaaDoor
open Go.RowKit Go.Lib

/-- Bytes in new memory. -/
def GivesB (w : World) (bs : List Nat) (e : Ending) (w' : World) : Prop := ∃ v, e = .returned v ∧ w'.ownsRow w.heap.size 5 1 v bs.length (bs.map bv) ∧ Below w.heap.size w w'
theorem bv_one (l : List Nat) : ∀ u ∈ l.map bv, u.oneCell' = true := by
  intro u hu
  obtain ⟨b, _, rfl⟩ := List.mem_map.1 hu
  rfl
theorem bcell {W w1 : World} (hb : Below W.heap.size W w1) : (∀ b o, b < W.heap.size → w1.cell? ⟨b, o, none⟩ = W.cell? ⟨b, o, none⟩) ∧ (∀ b o, b < W.heap.size → w1.frozen? ⟨b, o, none⟩ = W.frozen? ⟨b, o, none⟩) :=
  ⟨fun b o h => hb.cell (p := ⟨b, o, none⟩) h, fun b o h => hb.frozen (p := ⟨b, o, none⟩) h⟩
theorem own_below' {w w' : World} {base : Nat} {e : TypeId} {size n : Nat} {v : Value} {xs : List Value} (h : w.ownsRow base e size v n xs) (hb : Below w.heap.size w w') : w'.ownsRow base e size v n xs :=
  h.kept (row := none) ⟨hb.os, hb.tape, hb.output, hb.size, fun k hk _ => hb.block k hk⟩ (by
    cases h' : v.ownBlock with
    | none => exact .inl rfl
    | some k => exact .inr (by simp))
theorem own_mono {w : World} {base base' : Nat} {e : TypeId} {size n : Nat} {v : Value} {xs : List Value} (h : w.ownsRow base e size v n xs) (hb : base' ≤ base) : w.ownsRow base' e size v n xs := by
  obtain ⟨h1, h2 | ⟨g, cap, cur, h3, h4, h5⟩⟩ := h
  · exact ⟨h1, .inl h2⟩
  · exact ⟨h1, .inr ⟨g, cap, cur, h3, Nat.le_trans hb h4, h5⟩⟩
theorem own_lit1 (w : World) (b : Nat) : (w.alloc (.cells #[bv b] 5)).ownsRow w.heap.size 5 1 (.slice (some ⟨w.heap.size, 0, none⟩) 1 1) 1 [bv b] :=
  World.ownsRow_lit (base := w.heap.size) (e := 5) (size := 1) w #[bv b] 1 (Nat.le_refl _) (by unfold maxLen; omega) rfl
theorem refNumK_any (k : Nat) : ∀ (n : Nat) (w : World), n < 128 ^ (k + 1) → n < 4294967296 → k ≤ 4 → Calls Tryd.prog 71 #[.int .u32 n] w (GivesB w (numK (k + 1) n)) := by
  obtain ⟨i0, hi, hz0, hz1, hz2⟩ := info_parts (show (Tryd.prog.info? 5).map (fun i => (i.zero, i.size, i.bytes)) = some (some (.int .u8 0), 1, 1) by kernel_rfl)
  induction k with
  | zero =>
    intro n w hn h32 hk
    rw [Nat.zero_add, Nat.pow_one] at hn
    rw [numB_last hn]
    have hnI : (n : Int) < 128 := by omega
    unfold GivesB
    go_enter Tryd.func71, Tryd.ntmps71
    go_wp2_with fail
    go_ret
    exact ⟨_, rfl, own_lit1 w n, (Below.refl _ _).alloc (Nat.le_refl _) _⟩
  | succ k ih =>
    intro n w hn h32 hk
    by_cases hlt : n < 128
    · rw [numB_last hlt]
      have hnI : (n : Int) < 128 := by omega
      unfold GivesB
      clear ih
      go_enter Tryd.func71, Tryd.ntmps71
      go_wp2_with fail
      go_ret
      exact ⟨_, rfl, own_lit1 w n, (Below.refl _ _).alloc (Nat.le_refl _) _⟩
    · rw [numB_step hlt]
      have hnI : ¬ (n : Int) < 128 := by omega
      have hrec : ∀ W, Calls Tryd.prog 71 #[.int .u32 ((n : Int) / 128)] W (GivesB W (numK (k + 1) (n / 128))) := fun W => by
        have := ih (n / 128) W (by rw [Nat.pow_succ] at hn; omega) (by omega) (by omega)
        rwa [show ((n / 128 : Nat) : Int) = (n : Int) / 128 by omega] at this
      have hll := numK_len (k + 1) (n / 128)
      have HREC := Lib.hid hrec
      clear ih hn hrec
      generalize numK (k + 1) (n / 128) = ys at *
      unfold GivesB
      have hlo := own_lit1 w (n % 128 + 128)
      have HLO := Lib.hid hlo
      clear hlo
      go_enter Tryd.func71, Tryd.ntmps71
      go_wp2_with fail
      refine (HREC.out _).mono ?_
      rintro e w1 ⟨v, rfl, ho, hb⟩
      obtain ⟨A, c, rfl, _, _⟩ := ownsRow_form ho
      have hlo' := own_below' HLO.out hb
      have hb1 := Below.trans ((Below.refl w.heap.size w).alloc (Nat.le_refl _) _) (hb.mono (by simp))
      have HO := Lib.hid ho; have HB := Lib.hid hb1; have HL := Lib.hid hlo'
      clear ho hb hlo' hb1
      go_wp2_with (at_builtin; refine wpList_append_any _ rfl _ _ 35 rfl w.heap.size 5 i0 (.int .u8 0) 1 1 Tryd.underlying35 hi hz0 hz1 hz2 rfl (by decide) _ _ _ rfl HL.out _ _ _ _ (ys.map bv) rfl (Reads.of_own HO.out) (bv_one _) (by unfold maxLen; omega) (by omega) (by have := HB.out.size; omega) ?_; intro v' w3 hown' hgrow hx'; have hb3 := HB.out.grown hgrow HB.out.size (fun g hg => (HL.out.lt g hg).1); clear hgrow hx')
      go_ret
      exact ⟨_, rfl, by have h := hown'; rw [Nat.add_comm] at h; exact h, hb3⟩
theorem refNum_any (n : Nat) (w : World) (hn : n < 4294967296) : Calls Tryd.prog 71 #[.int .u32 n] w (GivesB w (numB n)) :=
  refNumK_any 4 n w (Nat.lt_of_lt_of_le hn (by decide)) hn (by omega)
theorem refCount_any (n : Nat) (w : World) (hn : n < 4294967296) : Calls Tryd.prog 70 #[.int .i64 n] w (GivesB w (numB n)) := by
  have hc := refNum_any n w hn
  have hw : (n : Int) % 4294967296 = n := by omega
  unfold GivesB at hc ⊢
  generalize numB n = ys at *
  go_enter Tryd.func70, Tryd.ntmps70
  go_wp2_with fail
  refine hc.mono ?_
  rintro e w1 ⟨v, rfl, ho, hb⟩
  go_wp2
  go_ret
  exact ⟨_, rfl, ho, hb⟩
set_option maxRecDepth 20000 in
set_option maxHeartbeats 1000000 in
theorem refSound_any (s : Snd) (w : World) (hs : ok32 s) : Calls Tryd.prog 72 #[sndV s] w (GivesB w (sndB s)) := by
  obtain ⟨i0, hi, hz0, hz1, hz2⟩ := info_parts (show (Tryd.prog.info? 5).map (fun i => (i.zero, i.size, i.bytes)) = some (some (.int .u8 0), 1, 1) by kernel_rfl)
  obtain ⟨a, b⟩ := s
  have hca := fun W => refNum_any a W hs.1
  have hcb := fun W => refNum_any b W hs.2
  have hla := numB_len a
  have hlb := numB_len b
  show Calls _ _ _ _ (GivesB w (numB a ++ numB b))
  have HA := Lib.hid hca; have HB := Lib.hid hcb
  clear hca hcb hs
  generalize numB a = ya at *
  generalize numB b = yb at *
  unfold GivesB
  go_enter Tryd.func72, Tryd.ntmps72
  go_wp2
  go_region_law (first
    | (refine step_append_any _ rfl (.tmp 5) (.tmp 8) 35 rfl w.heap.size 5 i0 (.int .u8 0) 1 1 Tryd.underlying35 hi hz0 hz1 hz2 rfl (by decide) _ _ _ rfl (by first | exact hoa | exact own_below' hoa hbb) _ _ _ _ (yb.map bv) rfl (by first | exact Reads.of_own hob | exact Reads.of_own (own_below' hob hba)) (bv_one _) (by unfold maxLen; omega) (by omega) (by omega) ?_; intro v' w3 hown' hgrow hx'; clear hx')
    | (go_simp; go_at_call 71; (with_reducible refine (HA.out _).mono ?_); rintro e wa ⟨va, rfl, hoa, hba⟩; replace hoa := own_mono hoa (show w.heap.size ≤ _ by first | omega | (simp; done) | (simp; omega)); have hsz := hba.size; (try simp at hsz); obtain ⟨A, ca, rfl, _, _⟩ := ownsRow_form hoa; obtain ⟨hcell, _⟩ := bcell hba)
    | (go_simp; go_at_call 71; (with_reducible refine (HB.out _).mono ?_); rintro e wb ⟨vb, rfl, hob, hbb⟩; replace hob := own_mono hob (show w.heap.size ≤ _ by first | omega | (simp; done) | (simp; omega)); have hsz := hbb.size; (try simp at hsz); obtain ⟨B, cb, rfl, _, _⟩ := ownsRow_form hob; obtain ⟨hcell, _⟩ := bcell hbb))
  all_goals
    have hb0 := (Below.refl w.heap.size w).alloc (Nat.le_refl _) (.cells #[.int .u32 a, .int .u32 b] 24)
    have hb3 : Below w.heap.size w w3 := ((hb0.drew.trans (hba.mono (by simp))).trans (hbb.mono (by omega))).grown hgrow (by omega) (fun g hg => (hoa.lt g hg).1)
    have HO := Lib.hid hown'; have HB3 := Lib.hid hb3
    clear hown' hb3 hgrow hb0 hba hbb hcell hoa hob
    go_simp
    go_wp2
    go_ret
    exact ⟨_, rfl, by have h := HO.out; rw [← List.map_append, ← List.length_append] at h; exact h, HB3.out⟩
set_option maxRecDepth 20000 in
set_option maxHeartbeats 1000000 in
theorem refWordB_any (A : Option Addr) (n c B : Nat) (ws : List Snd) (w : World) (hr : Reads w B 2 A n (ws.flatMap sndC)) (hB : B ≤ w.heap.size) (hn : n ≤ 1000000) (hok : ∀ s ∈ ws, ok32 s) :
    Calls Tryd.prog 38 #[.slice A n c] w (GivesB w (wordB ws)) := by
  obtain ⟨i0, hi, hz0, hz1, hz2⟩ := info_parts (show (Tryd.prog.info? 5).map (fun i => (i.zero, i.size, i.bytes)) = some (some (.int .u8 0), 1, 1) by kernel_rfl)
  have hwl := hr.len_of (fun _ => rfl) (by decide)
  have hcn := refCount_any n w (by omega)
  have hl := numB_len n
  have HR := Lib.hid hr; have HWL := Lib.hid hwl; have HOK := Lib.hid hok; have HCN := Lib.hid hcn
  clear hr hwl hok hcn
  show Calls _ _ _ _ fun e w' => ∃ v, e = .returned v ∧ w'.ownsRow w.heap.size 5 1 v (wordB ws).length ((wordB ws).map bv) ∧ Below w.heap.size w w'
  go_enter Tryd.func38, Tryd.ntmps38
  go_wp2_with fail
  refine HCN.out.mono ?_
  rintro e w1 ⟨v1, rfl, ho1, hb1⟩
  have HO1 := Lib.hid ho1; have HB1 := Lib.hid hb1
  clear ho1 hb1
  go_wp2
  go_loopw [3, 4] (fun v i wr => ∃ k : Nat, k ≤ n ∧ i = .int .i64 k ∧ wr.ownsRow w.heap.size 5 1 v (numB n ++ (ws.take k).flatMap sndB).length ((numB n ++ (ws.take k).flatMap sndB).map bv) ∧ Below w.heap.size w wr) (fun _ i _ => n - (RowKit.intOf i).toNat)
  case atStart => exact ⟨0, by omega, rfl, by simpa using HO1.out, HB1.out⟩
  case round =>
    obtain ⟨k, hk, rfl, hown, hb⟩ := hrel
    have HO := Lib.hid hown; have HB := Lib.hid hb
    have hlen : (numB n ++ (ws.take k).flatMap sndB).length ≤ 5 + 10 * k := by
      have := flatB_len sndB_len (ws.take k)
      rw [List.length_append]
      rw [List.length_take] at this
      omega
    clear hown hb
    by_cases hlt : k < n
    · have hkl : k < ws.length := by rw [HWL.out]; exact hlt
      have hkI : (k : Int) < (n : Int) := by omega
      obtain ⟨ad, rfl, had, hc0, hc1⟩ := snd_cells (HR.out.below (HB.out.mono hB)) hkl
      have hts : numB n ++ (ws.take (k + 1)).flatMap sndB = (numB n ++ (ws.take k).flatMap sndB) ++ sndB ws[k] := by rw [take_flat sndB ws k hkl, List.append_assoc]
      have hOK := HOK.out _ (List.getElem_mem hkl)
      have hsl := sndB_len ws[k]
      have hcs := refSound_any ws[k] wr hOK
      have HTS := Lib.hid hts; have HCS := Lib.hid hcs
      clear hts hcs
      generalize sndB ws[k] = ys at *
      generalize ws[k] = s at *
      generalize numB n ++ (ws.take k).flatMap sndB = zs at *
      go_wp2_with fail
      refine HCS.out.mono ?_
      rintro e w2 ⟨v2, rfl, ho2, hb2⟩
      obtain ⟨A2, c2, rfl, _, _⟩ := ownsRow_form ho2
      have hz2 := own_below' HO.out hb2
      have hb2' := HB.out.trans (hb2.mono HB.out.size)
      have HO2 := Lib.hid ho2; have HZ2 := Lib.hid hz2; have HB2 := Lib.hid hb2'
      clear ho2 hz2 hb2 hb2'
      go_wp2_with (at_builtin; refine wpList_append_any _ rfl _ _ 35 rfl w.heap.size 5 i0 (.int .u8 0) 1 1 Tryd.underlying35 hi hz0 hz1 (by assumption) rfl (by decide) _ _ _ rfl HZ2.out _ _ _ _ (ys.map bv) rfl (Reads.of_own HO2.out) (bv_one _) (by unfold maxLen; omega) (by omega) (by have := HB2.out.size; omega) ?_; intro v' w3 hown' hgrow hx'; have hb3 := HB2.out.grown hgrow HB2.out.size (fun g hg => (HZ2.out.lt g hg).1); clear hgrow hx')
      go_roundw
      case rel => exact ⟨k + 1, by omega, by go_num, by rw [HTS.out, List.length_append, List.map_append]; exact hown', hb3⟩
      case measure => simp [RowKit.intOf]; omega
    · obtain rfl : k = n := by omega
      go_wp2
      go_ret
      have := HO.out
      rw [List.take_of_length_le (by rw [HWL.out]; exact Nat.le_refl _)] at this
      have e : wordB ws = numB k ++ ws.flatMap sndB := by show numB ws.length ++ _ = _; rw [HWL.out]
      exact ⟨_, rfl, by rw [e]; exact this, HB.out⟩
/-- What PutWord returns. -/
def putW (ws : List Snd) : List Nat := if wordE ws = 0 then wordB ws else []
theorem wordE_range (ws : List Snd) : wordE ws = 0 ∨ wordE ws = 11 ∨ wordE ws = 14 := by
  unfold wordE
  split
  · exact .inr (.inl rfl)
  · split
    · exact .inl rfl
    · exact .inr (.inr rfl)
def GivesBE (w : World) (bs : List Nat) (x : Int) (e : Ending) (w' : World) : Prop := ∃ v, e = .returned (.tuple #[v, .int .i64 x]) ∧ w'.ownsRow w.heap.size 5 1 v bs.length (bs.map bv) ∧ Below w.heap.size w w'
theorem wordE_len {ws : List Snd} (h : wordE ws = 0) : ws.length ≤ 32 := by
  unfold wordE at h
  split at h
  · cases h
  · omega
set_option maxRecDepth 20000 in
set_option maxHeartbeats 1000000 in
theorem refPutWord_any (A : Option Addr) (n c B : Nat) (ws : List Snd) (w : World) (hr : Reads w B 2 A n (ws.flatMap sndC)) (hB : B ≤ w.heap.size) (hn : n ≤ maxLen) (hok : ∀ s ∈ ws, ok32 s) :
    Calls Tryd.prog 18 #[.slice A n c] w (GivesBE w (putW ws) (wordE ws)) := by
  have hwl := hr.len_of (fun _ => rfl) (by decide)
  have hc := refWord_any A n c B ws w hr hB hn hok
  unfold GivesBE
  by_cases h0 : wordE ws = 0
  · have hp : putW ws = wordB ws := if_pos h0
    have h32 := wordE_len h0
    rw [hp, h0]
    rw [h0] at hc
    have hb := fun W (hW : Below w.heap.size w W) => refWordB_any A n c B ws W (hr.below (hW.mono hB)) (by have := hW.size; omega) (by omega) hok
    have HB := Lib.hid hb
    clear hr hok hb hp h0 hwl
    generalize wordB ws = bs at *
    go_enter Tryd.func18, Tryd.ntmps18
    go_wp2_with fail
    refine hc.mono ?_
    rintro e w1 ⟨rfl, hb1⟩
    have HB1 := Lib.hid hb1
    clear hb1
    go_wp2_with fail
    refine (HB.out _ HB1.out).mono ?_
    rintro e w2 ⟨v, rfl, ho, hb2⟩
    have HO := Lib.hid ho; have HB2 := Lib.hid hb2
    clear ho hb2
    go_wp2
    go_ret2
    exact ⟨_, rfl, own_mono HO.out HB1.out.size, HB1.out.trans (HB2.out.mono HB1.out.size)⟩
  · have hp : putW ws = [] := if_neg h0
    rw [hp]
    have hne : (wordE ws != 0) = true := by simpa using h0
    generalize wordE ws = x at *
    clear hr hok hp h0
    go_enter Tryd.func18, Tryd.ntmps18
    go_wp2_with fail
    refine hc.mono ?_
    rintro e w1 ⟨rfl, hb1⟩
    have HB1 := Lib.hid hb1
    clear hb1
    go_wp2
    go_ret2
    exact ⟨_, rfl, World.ownsRow_nil _ _ _ _, HB1.out⟩
/-- The program's PutWord. -/
theorem own_none {w : World} {base : Nat} (h : w.heap.size = base) : Wr (w.alloc (.cells #[.slice none 0 0] 62)) base base [] :=
  ⟨_, by rw [← h]; exact Blk.new w _ _, Nat.le_refl _, World.ownsRow_nil _ _ _ _⟩
end Go.Proofs.YtipfhamhiaeieaaDoor
namespace Go.Proofs.YtipfhamhiaeieaaDoor
open Go.RowKit Go.Lib

/-- All blocks but those of S are as they were. -/
structure Chg (S : List Nat) (w w' : World) : Prop where
  os : w'.os = w.os
  tape : w'.tape = w.tape
  output : w'.output = w.output
  size : w.heap.size ≤ w'.heap.size
  block : ∀ k, k < w.heap.size → k ∉ S → w'.heap[k]? = w.heap[k]?
theorem Chg.refl (S : List Nat) (w : World) : Chg S w w := ⟨rfl, rfl, rfl, Nat.le_refl _, fun _ _ _ => rfl⟩
section
variable {S : List Nat} {a w w' : World}
theorem Chg.trans (h : Chg S a w) (k : Chg S w w') : Chg S a w' :=
  ⟨k.os.trans h.os, k.tape.trans h.tape, k.output.trans h.output, Nat.le_trans h.size k.size, fun i hi hs => (k.block i (Nat.lt_of_lt_of_le hi h.size) hs).trans (h.block i hi hs)⟩
theorem Chg.mono {T : List Nat} (h : Chg S a w) (hs : ∀ k ∈ S, k ∈ T) : Chg T a w := ⟨h.os, h.tape, h.output, h.size, fun k hk hn => h.block k hk (fun hm => hn (hs k hm))⟩
theorem Chg.alloc (h : Chg S a w) (o : Obj) : Chg S a (w.alloc o) :=
  h.trans ⟨rfl, rfl, rfl, by simp, fun _ hk _ => Below.heap_alloc _ _ _ hk⟩
theorem Chg.drew (h : Chg S a w) : Chg S a w.drew := ⟨h.os, h.tape, h.output, h.size, h.block⟩
theorem Chg.setCell (h : Chg S a w) {p : Addr} (hp : p.block ∈ S ∨ a.heap.size ≤ p.block) (u : Value) : Chg S a (w.setCell p u) :=
  ⟨h.os, h.tape, h.output, by have := h.size; simpa [World.setCell] using this, fun k hk hs => (Below.heap_setCell _ _ _ _ (by
    rintro rfl
    rcases hp with hp | hp
    · exact hs hp
    · omega)).trans (h.block k hk hs)⟩
theorem Chg.of_below (h : Below w.heap.size w w') : Chg S w w' := ⟨h.os, h.tape, h.output, h.size, fun k hk _ => h.block k hk⟩
/-- What was changed there is new. -/
theorem Chg.new (h : Chg S a w) {T : List Nat} (k : Chg T w w') (hT : ∀ i ∈ T, i ∈ S ∨ a.heap.size ≤ i) : Chg S a w' :=
  ⟨k.os.trans h.os, k.tape.trans h.tape, k.output.trans h.output, Nat.le_trans h.size k.size, fun i hi hs => (k.block i (Nat.lt_of_lt_of_le hi h.size) (fun hm => by
    rcases hT i hm with h1 | h1
    · exact hs h1
    · omega)).trans (h.block i hi hs)⟩
theorem Chg.below {B : Nat} (h : Chg S w w') (hB : ∀ i ∈ S, B ≤ i) (hw : B ≤ w.heap.size) : Below B w w' :=
  ⟨h.os, h.tape, h.output, h.size, fun k hk => h.block k (by omega) (fun hm => by have := hB k hm; omega)⟩
theorem Blk.chg {g : Nat} {t : TypeId} {cs : Array Value} (h : Blk w g t cs) (hc : Chg S w w') (hg : g ∉ S) : Blk w' g t cs := (hc.block g h.lt hg).trans h
theorem own_chg {base : Nat} {e : TypeId} {size n : Nat} {v : Value} {xs : List Value} (h : w.ownsRow base e size v n xs) (hc : Chg S w w') (hs : ∀ k, v.ownBlock = some k → k ∉ S) : w'.ownsRow base e size v n xs := by
  rcases h.2 with ⟨rfl, rfl⟩ | ⟨g, cap, cur, rfl, h1, h2, h3⟩
  · exact ⟨h.1, .inl ⟨rfl, rfl⟩⟩
  · have hg : g < w.heap.size := (h.lt g rfl).2
    exact ⟨h.1, .inr ⟨g, cap, cur, rfl, h1, (hc.block g hg (hs g rfl)).trans h2, h3⟩⟩
end
def RT : Nat := 106
/-- The bytes that are left, behind a reader's pointer. -/
def Rd (w : World) (g : Nat) (bs : List Nat) : Prop :=
  ∃ A c, Blk w g 106 #[.slice A bs.length c] ∧ Reads w g 1 A bs.length (bs.map bv) ∧ bs.length ≤ c ∧ c ≤ maxLen ∧ bs.length ≤ 1073741824 ∧ ∀ b ∈ bs, b < 256
theorem Rd.lt {w : World} {g : Nat} {bs : List Nat} (h : Rd w g bs) : g < w.heap.size := by
  obtain ⟨A, c, h, _⟩ := h; exact h.lt
theorem Rd.alloc {w : World} {g : Nat} {bs : List Nat} (h : Rd w g bs) (o : Obj) : Rd (w.alloc o) g bs := by
  obtain ⟨A, c, h1, h2, h3⟩ := h
  exact ⟨A, c, h1.alloc o, h2.alloc (Nat.le_of_lt h1.lt) o, h3⟩
theorem Rd.chg {w w' : World} {g : Nat} {bs : List Nat} {S : List Nat} (h : Rd w g bs) (hc : Chg S w w') (hs : ∀ k ∈ S, g < k) : Rd w' g bs := by
  obtain ⟨A, c, h1, h2, h3⟩ := h
  have hl := h1.lt
  exact ⟨A, c, h1.chg hc (fun hm => Nat.lt_irrefl _ (hs g hm)), h2.below (hc.below (fun i hi => Nat.le_of_lt (hs i hi)) (by omega)), h3⟩
/-- What is behind the first k bytes. -/
theorem cut_at (A : Option Addr) (n c k : Nat) (hk : k ≤ n) (hn : n ≤ c) : ∃ A1, (∀ W : World, (Instr.slice 35 (.slice A n c) (some (.int .i64 k)) none none).run Tryd.prog W = .ok (.slice A1 (n - k) (c - k)) W) ∧
    ∀ (W : World) (B : Nat) (xs : List Value), Reads W B 1 A n xs → Reads W B 1 A1 (n - k) (xs.drop k) := by
  refine ⟨if c = k then A else A.map (·.add (k * 1)), fun W => ?_, fun W B xs hr => by simpa using hr.cut (k := k) (cap := c) hk hn⟩
  obtain ⟨i0, hi, hz0, hz1, hz2⟩ := info_parts (show (Tryd.prog.info? 5).map (fun i => (i.zero, i.size, i.bytes)) = some (some (.int .u8 0), 1, 1) by kernel_rfl)
  have he : Tryd.prog.elem 35 = 5 := by kernel_rfl
  have hs : (sizeOf 5).run Tryd.prog W = .ok 1 W := by simp [sizeOf, typeInfo, hi, hz1]
  rw [run_slice_l W 35 A n c (by rw [he]; exact Tryd.underlying35) .i64 k (by omega) (by omega), he, hs]
  simp only [Result.andThen, sliced, Int.toNat_natCast]
theorem cut_one (ad : Addr) (m c : Nat) (h : m + 1 ≤ c) : ∃ A1, (∀ W : World, (Instr.slice 35 (.slice (some ad) (m + 1) c) (some (.int .i64 1)) none none).run Tryd.prog W = .ok (.slice A1 m (c - 1)) W) ∧
    ∀ (W : World) (B : Nat) (x : Value) (xs : List Value), Reads W B 1 (some ad) (m + 1) (x :: xs) → Reads W B 1 A1 m xs := by
  obtain ⟨A1, h1, h2⟩ := cut_at (some ad) (m + 1) c 1 (by omega) h
  exact ⟨A1, h1, fun W B x xs hr => h2 W B _ hr⟩
theorem or_step {acc k b T : Nat} (ha : acc < 128 ^ k) (hT : acc + 128 ^ k * (b % 128) = T) (hb : b < 256) (hT35 : T < 34359738368) :
    bits .or .u64 (acc : Int) (IntKind.u64.wrap (IntKind.u64.wrap (bits .and .u8 (b : Int) 127) * 2 ^ (7 * k))) = (T : Int) := by
  have h1 : bits .and .u8 (b : Int) 127 = ((b % 128 : Nat) : Int) := by
    have := u8_and_nat b 127 hb (by decide)
    rw [show b &&& 127 = b % 128 from Nat.and_two_pow_sub_one_eq_mod b 7] at this
    exact this
  have hp : (128 : Nat) ^ k = 2 ^ (7 * k) := by rw [Nat.pow_mul]
  have hle : 128 ^ k * (b % 128) ≤ T := by omega
  have h2 : IntKind.u64.wrap ((b % 128 : Nat) : Int) = ((b % 128 : Nat) : Int) := IntWalk.u64_in _ (by omega)
  have h3 : ((b % 128 : Nat) : Int) * 2 ^ (7 * k) = ((128 ^ k * (b % 128) : Nat) : Int) := by
    rw [hp, Nat.mul_comm (2 ^ (7 * k))]; simp
  have h4 : IntKind.u64.wrap ((128 ^ k * (b % 128) : Nat) : Int) = ((128 ^ k * (b % 128) : Nat) : Int) := IntWalk.u64_in _ (by omega)
  rw [h1, h2, h3, h4, u64_or_nat acc _ (by omega) (by omega)]
  have h5 : acc ||| 128 ^ k * (b % 128) = T := by
    rw [Nat.or_comm, hp, ← Nat.two_pow_add_eq_or_of_lt (by rw [← hp]; exact ha), ← hp]; omega
  rw [h5]
/-- What a reader panics with. -/
abbrev MAL : List PanicEntry := [{ v := .iface 103 (.agg #[]), recovered := false }]
/-- What reading ends in: a value, and the bytes behind it, or a panic; all blocks but the reader's are as they were. -/
def RdPost {α : Type} (g : Nat) (val : α → World → Value → Prop) (w : World) (o : Option (α × List Nat)) (e : Ending) (w' : World) : Prop :=
  Chg [g] w w' ∧ match o with
    | some (x, r) => ∃ v, e = .returned v ∧ val x w' v ∧ Rd w' g r
    | none => e = .panicked MAL
section
variable {k acc b : Nat} {l : List Nat}
theorem readK_zero : readK 0 k acc l = none := rfl
theorem readK_nil (hk : k < 5) : readK (5 - k) k acc [] = none := by
  rw [show 5 - k = (4 - k) + 1 by omega]; rfl
theorem readK_cons (hk : k < 5) : readK (5 - k) k acc (b :: l) = if 128 ≤ b then readK (5 - (k + 1)) (k + 1) (acc + 128 ^ k * (b % 128)) l else if (b = 0 ∧ 0 < k) ∨ 4294967296 ≤ acc + 128 ^ k * b then none else some (acc + 128 ^ k * b, l) := by
  rw [show 5 - k = (4 - k) + 1 by omega, show 5 - (k + 1) = 4 - k by omega]; rfl
end
theorem rd_set {w : World} {g b c c1 : Nat} {bs : List Nat} {A A1 : Option Addr} (h1 : Blk w g 106 #[.slice A (b :: bs).length c]) (hr : Reads w g 1 A1 bs.length (bs.map bv)) (h2 : bs.length ≤ c1) (h3 : c1 ≤ maxLen) (h6 : bs.length ≤ 1073741824) (h4 : ∀ x ∈ bs, x < 256) : Rd (w.setCell ⟨g, 0, none⟩ (.slice A1 bs.length c1)) g bs :=
  ⟨A1, c1, by simpa using h1.set_ 0 (.slice A1 bs.length c1), hr.setCell (Nat.le_refl _) _, h2, h3, h6, h4⟩
set_option maxRecDepth 20000 in
set_option maxHeartbeats 4000000 in
theorem rnum_any (w : World) (g : Nat) (bs : List Nat) (h : Rd w g bs) :
    Calls Tryd.prog 76 #[wptr g] w (RdPost g (fun (n : Nat) _ v => v = .int .u32 n) w (readN bs)) := by
  have HH := Lib.hid h
  clear h
  obtain ⟨o, ho⟩ : ∃ o, readN bs = o := ⟨_, rfl⟩
  rw [ho]
  have HO := Lib.hid ho
  clear ho
  go_enter Tryd.func76, Tryd.ntmps76
  go_wp2
  go_loopw [3, 6] (fun a i wr => ∃ k acc : Nat, ∃ bs' : List Nat, k ≤ 5 ∧ i = .int .i64 k ∧ a = .int .u64 acc ∧ acc < 128 ^ k ∧ readK (5 - k) k acc bs' = o ∧ Rd wr g bs' ∧ Chg [g] w wr) (fun _ i _ => 5 - (RowKit.intOf i).toNat)
  case atStart => exact ⟨0, 0, bs, by omega, rfl, rfl, by decide, HO.out, HH.out, Chg.refl _ _⟩
  case round =>
    obtain ⟨k, acc, bs', hk, rfl, rfl, hacc, hrd, hr, hch⟩ := hrel
    obtain ⟨A, c, h1, h2, h3, h4, h6, h5⟩ := id hr
    have HRD := Lib.hid hrd; have HR := Lib.hid hr; have HCH := Lib.hid hch; have HACC := Lib.hid hacc; have H1 := Lib.hid h1; have H2 := Lib.hid h2; have H5 := Lib.hid h5; have H4 := Lib.hid h4
    have hc0 := h1.cell 0
    have hf0 := h1.frozen 0
    have hgl := h1.lt
    simp only [List.getElem?_toArray, List.getElem?_cons_zero] at hc0
    clear hrd hr hch hacc h2 h5 h1
    unfold maxLen at h4
    by_cases hlt : k < 5
    · have hkI : (k : Int) < 5 := by omega
      cases bs' with
      | nil =>
        have e := HRD.out
        rw [readK_nil hlt] at e
        subst e
        simp only [List.length_nil] at *
        go_wp2
        exact ⟨rfl, HCH.out, rfl⟩
      | cons b bs' =>
        have h2 := H2.out
        obtain ⟨ad, rfl, had, hcell⟩ := h2.2 (by simp)
        have hb0 : wr.cell? ad = some (bv b) := by have := hcell 0 _ rfl; simpa [Addr.add] using this
        obtain ⟨A1, hcut, hcr⟩ := cut_one ad bs'.length c (by simpa using h3)
        have hbb := H5.out b (List.mem_cons_self ..)
        have hrest := fun x hx => H5.out x (List.mem_cons_of_mem b hx)
        have hset : Rd (wr.setCell ⟨g, 0, none⟩ (.slice A1 bs'.length (c - 1))) g bs' := rd_set H1.out (hcr wr g _ _ (by simpa using h2)) (by simp only [List.length_cons] at h3; omega) (by have := H4.out; omega) (by simp only [List.length_cons] at h6; omega) hrest
        have hchs := HCH.out.setCell (p := ⟨g, 0, none⟩) (.inl (by simp)) (.slice A1 bs'.length (c - 1))
        have e := HRD.out
        rw [readK_cons hlt] at e
        obtain ⟨T, hT⟩ : ∃ T : Nat, acc + 128 ^ k * (b % 128) = T := ⟨_, rfl⟩
        have hTk : T < 128 ^ (k + 1) := by
          have h128 : 128 ^ k * (b % 128) ≤ 128 ^ k * 127 := Nat.mul_le_mul_left _ (by omega)
          have := HACC.out
          rw [← hT, Nat.pow_succ]; omega
        have hT35 : T < 34359738368 := Nat.lt_of_lt_of_le hTk (by
          have : 128 ^ (k + 1) ≤ 128 ^ 5 := Nat.pow_le_pow_right (by decide) (by omega)
          exact this)
        have hor := or_step (k := k) (b := b) HACC.out hT hbb hT35
        rw [hT] at e
        have HTK := Lib.hid hTk; have HSET := Lib.hid hset; have HCHS := Lib.hid hchs
        simp only [List.length_cons] at *
        clear hcr hcell h2 hTk hset hchs hrest
        by_cases h128 : 128 ≤ b
        · have h128I : (128 : Int) ≤ b := by omega
          rw [if_pos h128] at e
          have HE := Lib.hid e
          clear e hT
          go_wp2
          go_roundw
          case rel => exact ⟨k + 1, T, bs', by omega, by go_num, rfl, HTK.out, HE.out, HSET.out, HCHS.out⟩
          case measure => simp [RowKit.intOf]; omega
        · have h128I : ¬ (128 : Int) ≤ b := by omega
          rw [if_neg h128] at e
          have hTe : acc + 128 ^ k * b = T := by rw [← hT, Nat.mod_eq_of_lt (by omega)]
          rw [hTe] at e
          clear hT hTe
          by_cases hz : b = 0 ∧ 0 < k
          · have hz0 : ((b : Int) == 0) = true := by rw [beq_iff_eq]; omega
            have hkI0 : (0 : Int) < k := by omega
            rw [if_pos (.inl hz)] at e
            subst e
            clear hz
            go_wp2
            exact ⟨rfl, HCHS.out, rfl⟩
          · by_cases hbig : 4294967296 ≤ T
            · have hbI : ((T : Int) / 4294967296 != 0) = true := by rw [bne_iff_ne]; omega
              rw [if_pos (.inr hbig)] at e
              subst e
              by_cases hb0' : b = 0
              · have hz0 : ((b : Int) == 0) = true := by rw [beq_iff_eq]; omega
                have hkI0 : ¬ (0 : Int) < k := by omega
                clear hz hb0'
                go_wp2
                exact ⟨rfl, HCHS.out, rfl⟩
              · have hz0 : ((b : Int) == 0) = false := by rw [beq_eq_false_iff_ne]; omega
                clear hz hb0'
                go_wp2
                exact ⟨rfl, HCHS.out, rfl⟩
            · have hbI : ((T : Int) / 4294967296 != 0) = false := by rw [bne_eq_false_iff_eq]; omega
              have hmod : (T : Int) % 4294967296 = T := by omega
              rw [if_neg (by omega)] at e
              subst e
              by_cases hb0' : b = 0
              · have hz0 : ((b : Int) == 0) = true := by rw [beq_iff_eq]; omega
                have hkI0 : ¬ (0 : Int) < k := by omega
                clear hz hb0'
                go_wp2
                go_ret
                exact ⟨HCHS.out, _, rfl, rfl, HSET.out⟩
              · have hz0 : ((b : Int) == 0) = false := by rw [beq_eq_false_iff_ne]; omega
                clear hz hb0'
                go_wp2
                go_ret
                exact ⟨HCHS.out, _, rfl, rfl, HSET.out⟩
    · obtain rfl : k = 5 := by omega
      have e := HRD.out
      rw [show readK (5 - 5) 5 acc bs' = none from rfl] at e
      subst e
      go_wp2
      exact ⟨rfl, HCH.out, rfl⟩
end Go.Proofs.YtipfhamhiaeieaaDoor
