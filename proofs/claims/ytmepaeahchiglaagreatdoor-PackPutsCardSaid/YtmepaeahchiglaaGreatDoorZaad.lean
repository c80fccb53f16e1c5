/-
  layer 43: the reference's Number, count, sound, word, text, PutWord. Conditions: numbers of 32 bits; lists of the reach.
-/
import Derived.Test.YtmepaeahchiglaaGreatDoorZaac
import Derived.Deep.RegionWith
import Derived.Deep.RegionLaw
namespace Go.Proofs.YtmepaeahchiglaaGreatDoor
open Go.RowKit Go.Lib

/-- Bytes in new memory. -/
def GivesB (w : World) (bs : List Nat) (e : Ending) (w' : World) : Prop := ∃ v, e = .returned v ∧ w'.ownsRow w.heap.size 5 1 v bs.length (bs.map bv) ∧ Below w.heap.size w w'
theorem bv_one (l : List Nat) : ∀ u ∈ l.map bv, u.oneCell' = true := by
  intro u hu
  obtain ⟨b, _, rfl⟩ := List.mem_map.1 hu
  rfl
theorem bcell {W w1 : World} (hb : Below W.heap.size W w1) : (∀ b o, b < W.heap.size → w1.cell? ⟨b, o, none⟩ = W.cell? ⟨b, o, none⟩) ∧ (∀ b o, b < W.heap.size → w1.frozen? ⟨b, o, none⟩ = W.frozen? ⟨b, o, none⟩) :=
  ⟨fun b o h => hb.cell (p := ⟨b, o, none⟩) h, fun b o h => hb.frozen (p := ⟨b, o, none⟩) h⟩
theorem own_below' {w w' : World} {base : Nat} {e : TypeId} {size n : Nat} {v : Value} {xs : List Value} (h : w.ownsRow base e size v n xs) (hb : Below w.heap.size w w') : w'.ownsRow base e size v n xs :=
  h.kept (row := none) ⟨hb.os, hb.tape, hb.output, hb.size, fun k hk _ => hb.block k hk⟩ (by
    cases h' : v.ownBlock with
    | none => exact .inl rfl
    | some k => exact .inr (by simp))
theorem own_mono {w : World} {base base' : Nat} {e : TypeId} {size n : Nat} {v : Value} {xs : List Value} (h : w.ownsRow base e size v n xs) (hb : base' ≤ base) : w.ownsRow base' e size v n xs := by
  obtain ⟨h1, h2 | ⟨g, cap, cur, h3, h4, h5⟩⟩ := h
  · exact ⟨h1, .inl h2⟩
  · exact ⟨h1, .inr ⟨g, cap, cur, h3, Nat.le_trans hb h4, h5⟩⟩
theorem own_lit1 (w : World) (b : Nat) : (w.alloc (.cells #[bv b] 5)).ownsRow w.heap.size 5 1 (.slice (some ⟨w.heap.size, 0, none⟩) 1 1) 1 [bv b] :=
  World.ownsRow_lit (base := w.heap.size) (e := 5) (size := 1) w #[bv b] 1 (Nat.le_refl _) (by unfold maxLen; omega) rfl
theorem refNumK_any (k : Nat) : ∀ (n : Nat) (w : World), n < 128 ^ (k + 1) → n < 4294967296 → k ≤ 4 → Calls Tryz.prog 103 #[.int .u32 n] w (GivesB w (numK (k + 1) n)) := by
  obtain ⟨i0, hi, hz0, hz1, hz2⟩ := info_parts (show (Tryz.prog.info? 5).map (fun i => (i.zero, i.size, i.bytes)) = some (some (.int .u8 0), 1, 1) by kernel_rfl)
  induction k with
  | zero =>
    intro n w hn h32 hk
    rw [Nat.zero_add, Nat.pow_one] at hn
    rw [numB_last hn]
    have hnI : (n : Int) < 128 := by omega
    unfold GivesB
    go_enter Tryz.func103, Tryz.ntmps103
    go_wp2_with fail
    go_ret
    exact ⟨_, rfl, own_lit1 w n, (Below.refl _ _).alloc (Nat.le_refl _) _⟩
  | succ k ih =>
    intro n w hn h32 hk
    by_cases hlt : n < 128
    · rw [numB_last hlt]
      have hnI : (n : Int) < 128 := by omega
      unfold GivesB
      clear ih
      go_enter Tryz.func103, Tryz.ntmps103
      go_wp2_with fail
      go_ret
      exact ⟨_, rfl, own_lit1 w n, (Below.refl _ _).alloc (Nat.le_refl _) _⟩
    · rw [numB_step hlt]
      have hnI : ¬ (n : Int) < 128 := by omega
      have hrec : ∀ W, Calls Tryz.prog 103 #[.int .u32 ((n : Int) / 128)] W (GivesB W (numK (k + 1) (n / 128))) := fun W => by
        have := ih (n / 128) W (by rw [Nat.pow_succ] at hn; omega) (by omega) (by omega)
        rwa [show ((n / 128 : Nat) : Int) = (n : Int) / 128 by omega] at this
      have hll := numK_len (k + 1) (n / 128)
      have HREC := Lib.hid hrec
      clear ih hn hrec
      generalize numK (k + 1) (n / 128) = ys at *
      unfold GivesB
      have hlo := own_lit1 w (n % 128 + 128)
      have HLO := Lib.hid hlo
      clear hlo
      go_enter Tryz.func103, Tryz.ntmps103
      go_wp2_with fail
      refine (HREC.out _).mono ?_
      rintro e w1 ⟨v, rfl, ho, hb⟩
      obtain ⟨A, c, rfl, _, _⟩ := ownsRow_form ho
      have hlo' := own_below' HLO.out hb
      have hb1 := Below.trans ((Below.refl w.heap.size w).alloc (Nat.le_refl _) _) (hb.mono (by simp))
      have HO := Lib.hid ho; have HB := Lib.hid hb1; have HL := Lib.hid hlo'
      clear ho hb hlo' hb1
      go_wp2_with (at_builtin; refine wpList_append_any _ rfl _ _ 36 rfl w.heap.size 5 i0 (.int .u8 0) 1 1 Tryz.underlying36 hi hz0 hz1 hz2 rfl (by decide) _ _ _ rfl HL.out _ _ _ _ (ys.map bv) rfl (Reads.of_own HO.out) (bv_one _) (by unfold maxLen; omega) (by omega) (by have := HB.out.size; omega) ?_; intro v' w3 hown' hgrow hx'; have hb3 := HB.out.grown hgrow HB.out.size (fun g hg => (HL.out.lt g hg).1); clear hgrow hx')
      go_ret
      exact ⟨_, rfl, by have h := hown'; rw [Nat.add_comm] at h; exact h, hb3⟩
theorem refNum_any (n : Nat) (w : World) (hn : n < 4294967296) : Calls Tryz.prog 103 #[.int .u32 n] w (GivesB w (numB n)) :=
  refNumK_any 4 n w (Nat.lt_of_lt_of_le hn (by decide)) hn (by omega)
theorem refCount_any (n : Nat) (w : World) (hn : n < 4294967296) : Calls Tryz.prog 42 #[.int .i64 n] w (GivesB w (numB n)) := by
  have hc := refNum_any n w hn
  have hw : (n : Int) % 4294967296 = n := by omega
  unfold GivesB at hc ⊢
  generalize numB n = ys at *
  go_enter Tryz.func42, Tryz.ntmps42
  go_wp2_with fail
  refine hc.mono ?_
  rintro e w1 ⟨v, rfl, ho, hb⟩
  go_wp2
  go_ret
  exact ⟨_, rfl, ho, hb⟩
set_option maxRecDepth 20000 in
set_option maxHeartbeats 1000000 in
theorem refSound_any (s : Snd) (w : World) (hs : ok32 s) : Calls Tryz.prog 102 #[sndV s] w (GivesB w (sndB s)) := by
  obtain ⟨i0, hi, hz0, hz1, hz2⟩ := info_parts (show (Tryz.prog.info? 5).map (fun i => (i.zero, i.size, i.bytes)) = some (some (.int .u8 0), 1, 1) by kernel_rfl)
  obtain ⟨a, b⟩ := s
  have hca := fun W => refNum_any a W hs.1
  have hcb := fun W => refNum_any b W hs.2
  have hla := numB_len a
  have hlb := numB_len b
  show Calls _ _ _ _ (GivesB w (numB a ++ numB b))
  have HA := Lib.hid hca; have HB := Lib.hid hcb
  clear hca hcb hs
  generalize numB a = ya at *
  generalize numB b = yb at *
  unfold GivesB
  go_enter Tryz.func102, Tryz.ntmps102
  go_wp2
  go_region_law (first
    | (refine step_append_any _ rfl (.tmp 5) (.tmp 8) 36 rfl w.heap.size 5 i0 (.int .u8 0) 1 1 Tryz.underlying36 hi hz0 hz1 hz2 rfl (by decide) _ _ _ rfl (by first | exact hoa | exact own_below' hoa hbb) _ _ _ _ (yb.map bv) rfl (by first | exact Reads.of_own hob | exact Reads.of_own (own_below' hob hba)) (bv_one _) (by unfold maxLen; omega) (by omega) (by omega) ?_; intro v' w3 hown' hgrow hx'; clear hx')
    | (go_simp; go_at_call 103; (with_reducible refine (HA.out _).mono ?_); rintro e wa ⟨va, rfl, hoa, hba⟩; replace hoa := own_mono hoa (show w.heap.size ≤ _ by first | omega | (simp; done) | (simp; omega)); have hsz := hba.size; (try simp at hsz); obtain ⟨A, ca, rfl, _, _⟩ := ownsRow_form hoa; obtain ⟨hcell, _⟩ := bcell hba)
    | (go_simp; go_at_call 103; (with_reducible refine (HB.out _).mono ?_); rintro e wb ⟨vb, rfl, hob, hbb⟩; replace hob := own_mono hob (show w.heap.size ≤ _ by first | omega | (simp; done) | (simp; omega)); have hsz := hbb.size; (try simp at hsz); obtain ⟨B, cb, rfl, _, _⟩ := ownsRow_form hob; obtain ⟨hcell, _⟩ := bcell hbb))
  all_goals
    have hb0 := (Below.refl w.heap.size w).alloc (Nat.le_refl _) (.cells #[.int .u32 a, .int .u32 b] 55)
    have hb3 : Below w.heap.size w w3 := ((hb0.drew.trans (hba.mono (by simp))).trans (hbb.mono (by omega))).grown hgrow (by omega) (fun g hg => (hoa.lt g hg).1)
    have HO := Lib.hid hown'; have HB3 := Lib.hid hb3
    clear hown' hb3 hgrow hb0 hba hbb hcell hoa hob
    go_simp
    go_wp2
    go_ret
    exact ⟨_, rfl, by have h := HO.out; rw [← List.map_append, ← List.length_append] at h; exact h, HB3.out⟩
set_option maxRecDepth 20000 in
set_option maxHeartbeats 1000000 in
theorem refWordB_any (A : Option Addr) (n c B : Nat) (ws : List Snd) (w : World) (hr : Reads w B 2 A n (ws.flatMap sndC)) (hB : B ≤ w.heap.size) (hn : n ≤ 1000000) (hok : ∀ s ∈ ws, ok32 s) :
    Calls Tryz.prog 160 #[.slice A n c] w (GivesB w (wordB ws)) := by
  obtain ⟨i0, hi, hz0, hz1, hz2⟩ := info_parts (show (Tryz.prog.info? 5).map (fun i => (i.zero, i.size, i.bytes)) = some (some (.int .u8 0), 1, 1) by kernel_rfl)
  have hwl := hr.len_of (fun _ => rfl) (by decide)
  have hcn := refCount_any n w (by omega)
  have hl := numB_len n
  have HR := Lib.hid hr; have HWL := Lib.hid hwl; have HOK := Lib.hid hok; have HCN := Lib.hid hcn
  clear hr hwl hok hcn
  show Calls _ _ _ _ fun e w' => ∃ v, e = .returned v ∧ w'.ownsRow w.heap.size 5 1 v (wordB ws).length ((wordB ws).map bv) ∧ Below w.heap.size w w'
  go_enter Tryz.func160, Tryz.ntmps160
  go_wp2_with fail
  refine HCN.out.mono ?_
  rintro e w1 ⟨v1, rfl, ho1, hb1⟩
  have HO1 := Lib.hid ho1; have HB1 := Lib.hid hb1
  clear ho1 hb1
  go_wp2
  go_loopw [3, 4] (fun v i wr => ∃ k : Nat, k ≤ n ∧ i = .int .i64 k ∧ wr.ownsRow w.heap.size 5 1 v (numB n ++ (ws.take k).flatMap sndB).length ((numB n ++ (ws.take k).flatMap sndB).map bv) ∧ Below w.heap.size w wr) (fun _ i _ => n - (RowKit.intOf i).toNat)
  case atStart => exact ⟨0, by omega, rfl, by simpa using HO1.out, HB1.out⟩
  case round =>
    obtain ⟨k, hk, rfl, hown, hb⟩ := hrel
    have HO := Lib.hid hown; have HB := Lib.hid hb
    have hlen : (numB n ++ (ws.take k).flatMap sndB).length ≤ 5 + 10 * k := by
      have := flatB_len sndB_len (ws.take k)
      rw [List.length_append]
      rw [List.length_take] at this
      omega
    clear hown hb
    by_cases hlt : k < n
    · have hkl : k < ws.length := by rw [HWL.out]; exact hlt
      have hkI : (k : Int) < (n : Int) := by omega
      obtain ⟨ad, rfl, had, hc0, hc1⟩ := snd_cells (HR.out.below (HB.out.mono hB)) hkl
      have hts : numB n ++ (ws.take (k + 1)).flatMap sndB = (numB n ++ (ws.take k).flatMap sndB) ++ sndB ws[k] := by rw [take_flat sndB ws k hkl, List.append_assoc]
      have hOK := HOK.out _ (List.getElem_mem hkl)
      have hsl := sndB_len ws[k]
      have hcs := refSound_any ws[k] wr hOK
      have HTS := Lib.hid hts; have HCS := Lib.hid hcs
      clear hts hcs
      generalize sndB ws[k] = ys at *
      generalize ws[k] = s at *
      generalize numB n ++ (ws.take k).flatMap sndB = zs at *
      go_wp2_with fail
      refine HCS.out.mono ?_
      rintro e w2 ⟨v2, rfl, ho2, hb2⟩
      obtain ⟨A2, c2, rfl, _, _⟩ := ownsRow_form ho2
      have hz2 := own_below' HO.out hb2
      have hb2' := HB.out.trans (hb2.mono HB.out.size)
      have HO2 := Lib.hid ho2; have HZ2 := Lib.hid hz2; have HB2 := Lib.hid hb2'
      clear ho2 hz2 hb2 hb2'
      go_wp2_with (at_builtin; refine wpList_append_any _ rfl _ _ 36 rfl w.heap.size 5 i0 (.int .u8 0) 1 1 Tryz.underlying36 hi hz0 hz1 (by assumption) rfl (by decide) _ _ _ rfl HZ2.out _ _ _ _ (ys.map bv) rfl (Reads.of_own HO2.out) (bv_one _) (by unfold maxLen; omega) (by omega) (by have := HB2.out.size; omega) ?_; intro v' w3 hown' hgrow hx'; have hb3 := HB2.out.grown hgrow HB2.out.size (fun g hg => (HZ2.out.lt g hg).1); clear hgrow hx')
      go_roundw
      case rel => exact ⟨k + 1, by omega, by go_num, by rw [HTS.out, List.length_append, List.map_append]; exact hown', hb3⟩
      case measure => simp [RowKit.intOf]; omega
    · obtain rfl : k = n := by omega
      go_wp2
      go_ret
      have := HO.out
      rw [List.take_of_length_le (by rw [HWL.out]; exact Nat.le_refl _)] at this
      have e : wordB ws = numB k ++ ws.flatMap sndB := by show numB ws.length ++ _ = _; rw [HWL.out]
      exact ⟨_, rfl, by rw [e]; exact this, HB.out⟩
/-- What PutWord returns. -/
def putW (ws : List Snd) : List Nat := if wordE ws = 0 then wordB ws else []
def GivesBE (w : World) (bs : List Nat) (x : Int) (e : Ending) (w' : World) : Prop := ∃ v, e = .returned (.tuple #[v, .int .i64 x]) ∧ w'.ownsRow w.heap.size 5 1 v bs.length (bs.map bv) ∧ Below w.heap.size w w'
theorem wordE_len {ws : List Snd} (h : wordE ws = 0) : ws.length ≤ 32 := by
  unfold wordE at h
  split at h
  · cases h
  · omega
/-- The program's PutWord. -/
theorem own_none {w : World} {base : Nat} (h : w.heap.size = base) : Wr (w.alloc (.cells #[.slice none 0 0] 92)) base base [] :=
  ⟨_, by rw [← h]; exact Blk.new w _ _, Nat.le_refl _, World.ownsRow_nil _ _ _ _⟩
end Go.Proofs.YtmepaeahchiglaaGreatDoor
namespace Go.Proofs.YtmepaeahchiglaaGreatDoor
open Go.RowKit Go.Lib

theorem wordB_len (ws : List Snd) : (wordB ws).length ≤ 5 + 10 * ws.length := by
  show (numB ws.length ++ ws.flatMap sndB).length ≤ _
  rw [List.length_append]
  have := numB_len ws.length
  have := flatB_len sndB_len ws
  omega
set_option maxRecDepth 20000 in
set_option maxHeartbeats 1000000 in
theorem putWord_any (A : Option Addr) (n c B : Nat) (ws : List Snd) (w : World) (hr : Reads w B 2 A n (ws.flatMap sndC)) (hB : B ≤ w.heap.size) (hn : n ≤ maxLen) (hok : ∀ s ∈ ws, ok32 s) :
    Calls Tryz.prog 25 #[.slice A n c] w (GivesBE w (putW ws) (wordE ws)) := by
  have hwl := hr.len_of (fun _ => rfl) (by decide)
  have hc := wordCheck_any A n c B ws w hr hB hn hok
  unfold GivesBE
  by_cases h0 : wordE ws = 0
  · have hp : putW ws = wordB ws := if_pos h0
    have h32 := wordE_len h0
    rw [hp, h0]
    rw [h0] at hc
    have hb := fun W (hW : Below w.heap.size w W) => allSnd_any (W.alloc (.cells #[.slice none 0 0] 92)) W.heap.size W.heap.size B A n c ws [] (own_none rfl) ((hr.below (hW.mono hB)).alloc (by have := hW.size; omega) _) (by have := hW.size; omega) (by omega) hok (by unfold CAP; simp; omega)
    rw [List.nil_append] at hb
    have HB := Lib.hid hb
    clear hr hok hb hp h0 hwl
    generalize wordB ws = bs at *
    go_enter Tryz.func25, Tryz.ntmps25
    go_wp2_with fail
    refine hc.mono ?_
    rintro e w1 ⟨rfl, hb1⟩
    have HB1 := Lib.hid hb1
    clear hb1
    go_wp2_with fail
    refine (HB.out _ HB1.out).mono ?_
    rintro e w2 ⟨rfl, h1, h2⟩
    have hw0 := own_none (w := w1) rfl
    have hbl := h2.below hw0
    obtain ⟨v, b1, b2, b3⟩ := h1
    have hc0 := b1.cell 0
    simp only [List.getElem?_toArray, List.getElem?_cons_zero] at hc0
    have hB2 : Below w.heap.size w w2 := (HB1.out.alloc HB1.out.size _).trans (hbl.mono HB1.out.size)
    have HB2 := Lib.hid hB2; have HO := Lib.hid b3
    clear hbl hw0 h2 b1 b2 b3 hB2
    go_wp2
    go_ret2
    exact ⟨_, rfl, own_mono HO.out HB1.out.size, HB2.out⟩
  · have hp : putW ws = [] := if_neg h0
    rw [hp]
    have hne : (wordE ws != 0) = true := by simpa using h0
    generalize wordE ws = x at *
    clear hr hok hp h0
    go_enter Tryz.func25, Tryz.ntmps25
    go_wp2_with fail
    refine hc.mono ?_
    rintro e w1 ⟨rfl, hb1⟩
    have HB1 := Lib.hid hb1
    clear hb1
    go_wp2
    go_ret2
    exact ⟨_, rfl, World.ownsRow_nil _ _ _ _, HB1.out⟩
end Go.Proofs.YtmepaeahchiglaaGreatDoor
namespace Go.Proofs.YtmepaeahchiglaaGreatDoor
open Go.RowKit Go.Lib

abbrev patL (k : Int) (s : Snd) (neg : Bool) (lo hi : Int) (v : Value) : List Value := [.int .i64 k, .int .u32 s.1, .int .u32 s.2, .bool neg, .int .i64 lo, .int .i64 hi, v]
mutual
/-- The cells of a pattern, whose parts lie below block B. -/
def PatC (w : World) (B : Nat) : Pt → List Value → Prop
  | .mk k s neg lo hi l, cs => ∃ A c xs, cs = patL k s neg lo hi (.slice A l.length c) ∧ ok32 s ∧ l.length ≤ c ∧ c ≤ maxLen ∧ Reads w B 7 A l.length xs ∧ PatsC w B l xs
def PatsC (w : World) (B : Nat) : List Pt → List Value → Prop
  | [], xs => xs = []
  | p :: l, xs => ∃ c1 c2, xs = c1 ++ c2 ∧ PatC w B p c1 ∧ PatsC w B l c2
end
theorem patC_mk {w : World} {B : Nat} {k : Int} {s : Snd} {neg : Bool} {lo hi : Int} {l : List Pt} {cs : List Value} :
    PatC w B (.mk k s neg lo hi l) cs ↔ ∃ A c xs, cs = patL k s neg lo hi (.slice A l.length c) ∧ ok32 s ∧ l.length ≤ c ∧ c ≤ maxLen ∧ Reads w B 7 A l.length xs ∧ PatsC w B l xs := by rw [PatC]
theorem patsC_nil {w : World} {B : Nat} {xs : List Value} : PatsC w B [] xs ↔ xs = [] := by rw [PatsC]
theorem patsC_cons {w : World} {B : Nat} {p : Pt} {l : List Pt} {xs : List Value} : PatsC w B (p :: l) xs ↔ ∃ c1 c2, xs = c1 ++ c2 ∧ PatC w B p c1 ∧ PatsC w B l c2 := by rw [PatsC]
theorem PatC.len {w : World} {B : Nat} {p : Pt} {cs : List Value} (h : PatC w B p cs) : cs.length = 7 := by
  obtain ⟨k, s, neg, lo, hi, l⟩ := p
  rw [patC_mk] at h
  obtain ⟨A, c, xs, rfl, _⟩ := h; rfl
mutual
theorem PatC.keep {w w' : World} {B : Nat} (hk : ∀ p : Addr, p.block < B → w'.cell? p = w.cell? p) : ∀ (p : Pt) (cs : List Value), PatC w B p cs → PatC w' B p cs
  | .mk k s neg lo hi l, cs, h => by
    rw [patC_mk] at h ⊢
    obtain ⟨A, c, xs, h1, h2, h3, h4, h5, h6⟩ := h
    exact ⟨A, c, xs, h1, h2, h3, h4, h5.keep hk, PatsC.keep hk l xs h6⟩
theorem PatsC.keep {w w' : World} {B : Nat} (hk : ∀ p : Addr, p.block < B → w'.cell? p = w.cell? p) : ∀ (l : List Pt) (xs : List Value), PatsC w B l xs → PatsC w' B l xs
  | [], xs, h => by rw [patsC_nil] at h ⊢; exact h
  | p :: l, xs, h => by
    rw [patsC_cons] at h ⊢
    obtain ⟨c1, c2, e, h1, h2⟩ := h
    exact ⟨c1, c2, e, PatC.keep hk p c1 h1, PatsC.keep hk l c2 h2⟩
end
mutual
theorem PatC.more {w : World} {B B' : Nat} (hB : B ≤ B') : ∀ (p : Pt) (cs : List Value), PatC w B p cs → PatC w B' p cs
  | .mk k s neg lo hi l, cs, h => by
    rw [patC_mk] at h ⊢
    obtain ⟨A, c, xs, h1, h2, h3, h4, h5, h6⟩ := h
    exact ⟨A, c, xs, h1, h2, h3, h4, h5.more hB, PatsC.more hB l xs h6⟩
theorem PatsC.more {w : World} {B B' : Nat} (hB : B ≤ B') : ∀ (l : List Pt) (xs : List Value), PatsC w B l xs → PatsC w B' l xs
  | [], xs, h => by rw [patsC_nil] at h ⊢; exact h
  | p :: l, xs, h => by
    rw [patsC_cons] at h ⊢
    obtain ⟨c1, c2, e, h1, h2⟩ := h
    exact ⟨c1, c2, e, PatC.more hB p c1 h1, PatsC.more hB l c2 h2⟩
end
theorem PatC.below {w w' : World} {B : Nat} {p : Pt} {cs : List Value} (h : PatC w B p cs) (hb : Below B w w') : PatC w' B p cs := h.keep (fun _ hp => hb.cell hp) p cs
theorem PatsC.below {w w' : World} {B : Nat} {l : List Pt} {xs : List Value} (h : PatsC w B l xs) (hb : Below B w w') : PatsC w' B l xs := h.keep (fun _ hp => hb.cell hp) l xs
/-- The cells of one of several patterns. -/
theorem PatsC.at_ {w : World} {B : Nat} : ∀ (l : List Pt) (xs : List Value), PatsC w B l xs → ∀ (i : Nat) (hi : i < l.length), ∃ cs, PatC w B l[i] cs ∧ ∀ j u, cs[j]? = some u → xs[i * 7 + j]? = some u
  | [], _, _, i, hi => absurd hi (Nat.not_lt_zero i)
  | p :: l, xs, h, i, hi => by
    rw [patsC_cons] at h
    obtain ⟨c1, c2, rfl, h1, h2⟩ := h
    have hl := h1.len
    cases i with
    | zero =>
      refine ⟨c1, h1, fun j u hu => ?_⟩
      rw [Nat.zero_mul, Nat.zero_add, List.getElem?_append_left (List.getElem?_eq_some_iff.1 hu).1]
      exact hu
    | succ i =>
      obtain ⟨cs, k1, k2⟩ := PatsC.at_ l c2 h2 i (by simpa using hi)
      refine ⟨cs, k1, fun j u hu => ?_⟩
      rw [List.getElem?_append_right (by omega), show (i + 1) * 7 + j - c1.length = i * 7 + j by omega]
      exact k2 j u hu
theorem PatC.form {w : World} {B : Nat} {p : Pt} {cs : List Value} (h : PatC w B p cs) : ∃ k s neg lo hi A n c, cs = patL k s neg lo hi (.slice A n c) := by
  obtain ⟨k, s, neg, lo, hi, l⟩ := p
  rw [patC_mk] at h
  obtain ⟨A, c, xs, rfl, _⟩ := h
  exact ⟨k, s, neg, lo, hi, _, _, _, rfl⟩
/-- The seven cells of one of several patterns, as the walk asks for them. -/
theorem pat_cells {w : World} {B n : Nat} {A : Option Addr} {l : List Pt} {xs : List Value} (h : Reads w B 7 A n xs) (hp : PatsC w B l xs) (hn : l.length = n) {i : Nat} (hi : i < l.length) :
    ∃ ad k s neg lo hi' A' n' c', A = some ad ∧ ad.block < B ∧ PatC w B l[i] (patL k s neg lo hi' (.slice A' n' c')) ∧ w.cell? (ad.add (i * 7)) = some (.int .i64 k) ∧ w.cell? ⟨(ad.add (i * 7)).block, (ad.add (i * 7)).off + 1, none⟩ = some (.int .u32 s.1) ∧
      w.cell? ⟨(ad.add (i * 7)).block, (ad.add (i * 7)).off + 2, none⟩ = some (.int .u32 s.2) ∧ w.cell? ⟨(ad.add (i * 7)).block, (ad.add (i * 7)).off + 3, none⟩ = some (.bool neg) ∧
      w.cell? ⟨(ad.add (i * 7)).block, (ad.add (i * 7)).off + 4, none⟩ = some (.int .i64 lo) ∧ w.cell? ⟨(ad.add (i * 7)).block, (ad.add (i * 7)).off + 5, none⟩ = some (.int .i64 hi') ∧ w.cell? ⟨(ad.add (i * 7)).block, (ad.add (i * 7)).off + 6, none⟩ = some (.slice A' n' c') := by
  obtain ⟨ad, e, hb, hc⟩ := h.2 (by omega)
  obtain ⟨cs, h1, h2⟩ := hp.at_ l xs i hi
  obtain ⟨k, s, neg, lo, hi', A', n', c', rfl⟩ := h1.form
  refine ⟨ad, k, s, neg, lo, hi', A', n', c', e, hb, h1, hc _ _ (h2 0 _ rfl), ?_, ?_, ?_, ?_, ?_, ?_⟩
  · rw [← add_next ad (i * 7) 0]; exact hc _ _ (h2 1 _ rfl)
  · rw [← add_next ad (i * 7) 1]; exact hc _ _ (h2 2 _ rfl)
  · rw [← add_next ad (i * 7) 2]; exact hc _ _ (h2 3 _ rfl)
  · rw [← add_next ad (i * 7) 3]; exact hc _ _ (h2 4 _ rfl)
  · rw [← add_next ad (i * 7) 4]; exact hc _ _ (h2 5 _ rfl)
  · rw [← add_next ad (i * 7) 5]; exact hc _ _ (h2 6 _ rfl)
abbrev patV (k : Int) (s : Snd) (neg : Bool) (lo hi : Int) (v : Value) : Value := .agg #[.int .i64 k, .int .u32 s.1, .int .u32 s.2, .bool neg, .int .i64 lo, .int .i64 hi, v]
/-- What the writer's pattern does with patterns of at most m nodes. -/
def WritesPat (m : Nat) : Prop := ∀ (p : Pt) (k : Int) (s : Snd) (neg : Bool) (lo hi : Int) (A : Option Addr) (n c : Nat) (w : World) (base g B : Nat) (xs : List Nat), ptSize p ≤ m → ptSize p ≤ 1000 → ptOk p = true → PatC w B p (patL k s neg lo hi (.slice A n c)) → B ≤ base → Wr w base g xs → xs.length + 20 * ptSize p ≤ CAP →
  Calls Tryz.prog 139 #[wptr g, patV k s neg lo hi (.slice A n c)] w fun e w' => e = .returned (.tuple #[]) ∧ Wr w' base g (xs ++ patB p) ∧ WStep g w w'
set_option maxRecDepth 20000 in
set_option maxHeartbeats 1000000 in
theorem allPat_any (m : Nat) (hm : WritesPat m) (w : World) (base g B : Nat) (A : Option Addr) (n c : Nat) (l : List Pt) (ys : List Value) (xs : List Nat) (h : Wr w base g xs) (hr : Reads w B 7 A n ys) (hp : PatsC w B l ys) (hl : l.length = n) (hB : B ≤ base)
    (hsz : ptSizes l ≤ m) (h40 : ptSizes l ≤ 1000) (hok : ptsOk l = true) (hx : xs.length + 5 + 20 * ptSizes l ≤ CAP) :
    Calls Tryz.prog 183 #[wptr g, .slice A n c, .func (.func 139) #[wptr g] #[]] w fun e w' => e = .returned (.tuple #[]) ∧ Wr w' base g (xs ++ (numB l.length ++ patsB l)) ∧ WStep g w w' := by
  have hll := ptSizes_len l
  have hn : n < 4294967296 := by omega
  have hc1 := count_any w base g n xs h hn (by omega)
  have hl5 := numB_len n
  have HH := Lib.hid h; have HR := Lib.hid hr; have HP := Lib.hid hp; have HL := Lib.hid hl; have HOK := Lib.hid hok; have HM := Lib.hid hm
  clear h hr hp hl hok hm
  go_enter Tryz.func183, Tryz.ntmps183
  go_wp2_with fail
  refine hc1.mono ?_
  rintro e w1 ⟨rfl, h1, h2⟩
  have HW := Lib.hid h1; have HST := Lib.hid h2
  clear h1 h2 hc1
  go_wp2
  go_loopw [14] (fun i wr => ∃ k : Nat, k ≤ n ∧ i = .int .i64 k ∧ Wr wr base g (xs ++ numB n ++ patsB (l.take k)) ∧ WStep g w wr) (fun i _ => n - (RowKit.intOf i).toNat)
  case atStart => exact ⟨0, by omega, rfl, by rw [List.take_zero, patsB_nil, List.append_nil]; exact HW.out, HST.out⟩
  case round =>
    obtain ⟨k, hk, rfl, hwr, hst⟩ := hrel
    have HWR := Lib.hid hwr; have HST2 := Lib.hid hst
    clear hwr hst
    by_cases hlt : k < n
    · have hkl : k < l.length := by rw [HL.out]; exact hlt
      have hkI : (k : Int) < (n : Int) := by omega
      obtain ⟨ad, k', s, neg, lo, hi, A', n', c', rfl, had, hpc, hc0, hc1, hc2, hc3, hc4, hc5, hc6⟩ := pat_cells (HST2.out.reads HH.out HR.out hB) (HP.out.below ((HST2.out.below HH.out).mono hB)) HL.out hkl
      have hlen : (xs ++ numB n ++ patsB (l.take k)).length + 20 * ptSize l[k] ≤ CAP := by
        have := patsB_len (l.take k)
        have hsum := ptSizes_append (l.take k) (l.drop k)
        rw [List.take_append_drop, List.drop_eq_getElem_cons hkl, ptSizes_cons] at hsum
        rw [List.length_append, List.length_append]
        omega
      have hcall := HM.out l[k] k' s neg lo hi A' n' c' (wr.alloc (.cells #[.int .i64 k', .int .u32 s.1, .int .u32 s.2, .bool neg, .int .i64 lo, .int .i64 hi, .slice A' n' c'] 58)) base g B _ (Nat.le_trans (ptSize_mem (List.getElem_mem hkl)) hsz) (Nat.le_trans (ptSize_mem (List.getElem_mem hkl)) h40) (ptsOk_mem (List.getElem_mem hkl) HOK.out) (hpc.keep (fun p hp' => World.cell?_alloc_lt wr _ p (by have := HWR.out.lt; have := HWR.out.base_le; omega)) _ _) hB (HWR.out.alloc _) hlen
      have hts : patsB (l.take (k + 1)) = patsB (l.take k) ++ patB l[k] := by rw [patsB_flat, patsB_flat, take_flat patB l k hkl]
      have HTS := Lib.hid hts; have HCALL := Lib.hid hcall
      clear hts hcall hpc hlen
      generalize patB l[k] = pb at *
      go_wp2_with fail
      refine HCALL.out.mono ?_
      rintro e w2 ⟨rfl, h3, h4⟩
      have H3 := Lib.hid h3; have H4 := Lib.hid h4
      clear h3 h4
      go_wp2
      go_roundw
      case rel => exact ⟨k + 1, by omega, by go_num, by rw [HTS.out, ← List.append_assoc]; exact H3.out, (HST2.out.alloc HWR.out.lt _).trans H4.out⟩
      case measure => simp [RowKit.intOf]; omega
    · obtain rfl : k = n := by omega
      go_wp2
      go_end0
      refine ⟨rfl, ?_, HST2.out⟩
      have := HWR.out
      rw [List.take_of_length_le (by rw [HL.out]; exact Nat.le_refl _), List.append_assoc] at this
      rw [HL.out]; exact this
end Go.Proofs.YtmepaeahchiglaaGreatDoor
