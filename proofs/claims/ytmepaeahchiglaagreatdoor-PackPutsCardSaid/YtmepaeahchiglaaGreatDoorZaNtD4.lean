/-
  layer 3: Add of the reference. Conditions: an inventory in memory. (Printed by radd.py.)
-/
import Derived.Test.YtmepaeahchiglaaGreatDoorZabc
import Derived.Test.YtmepaeahchiglaaGreatDoorZaNtI6
import Derived.Deep.QuietTactic
import Derived.BigQuiet
namespace Go.Proofs.YtmepaeahchiglaaGreatDoor
open Go.RowKit Go.Lib

def RAddPost (w : World) (S : Nat → Prop) (g : Nat) (fs : List ByteArray) (L : List Nam) (sym : ByteArray) (s : Snd) (e : Ending) (w' : World) : Prop :=
  e = .returned (.int .i64 (addE fs.length L sym s)) ∧ RInv w' (fun b => S b ∨ NewB4 w w' b) g fs (addL fs.length L (sym, s)) ∧ ChgS S w w'
theorem radd_no {w w' : World} {S : Nat → Prop} {g : Nat} {fs : List ByteArray} {L : List Nam} {sym : ByteArray} {s : Snd} (x : Int) (h : RInv w S g fs L) (hb : Below w.heap.size w w') (hx : addE fs.length L sym s = x) (h0 : x ≠ 0) : RAddPost w S g fs L sym s (.returned (.int .i64 x)) w' := by
  refine ⟨by rw [hx], ?_, .of_below hb⟩
  have e : addL fs.length L (sym, s) = L := by unfold addL; rw [if_neg (by rw [hx]; exact h0)]
  rw [e]
  exact (h.below hb).mono fun b hb => .inl hb
theorem below_drewN {B : Nat} {w w' : World} (h : Below B w w') (n : Nat) : Below B w (w'.drewN n) := ⟨h.os, h.tape, h.output, h.size, h.block⟩
/-- A sound or a symbol that is there. -/
def thereP (sym : ByteArray) (s : Snd) (x : Nam) : Bool := decide (bs x.1 = bs sym) || decide (x.2 = s)
theorem there_any {L : List Nam} {sym : ByteArray} {s : Snd} : L.any (thereP sym s) = (hasSym L (bs sym) || hasVal L s) := by
  unfold thereP hasSym hasVal
  induction L with
  | nil => rfl
  | cons x L ih =>
    simp only [List.any_cons, ih]
    cases decide (bs x.1 = bs sym) <;> cases decide (x.2 = s) <;> simp
set_option linter.unusedSimpArgs false in
set_option maxRecDepth 20000 in
set_option maxHeartbeats 4000000 in
theorem radd_any {w : World} {S : Nat → Prop} {g : Nat} {fs : List ByteArray} {L : List Nam} (sym : ByteArray) (s : Snd) (h : RInv w S g fs L) (hS : ∀ b, S b → b < w.heap.size) (hs : ok32 s) (hsy : sym.size ≤ maxLen) :
    Calls Tryz.prog 194 #[wptr g, .string sym, sndV s] w (RAddPost w S g fs L sym s) := by
  obtain ⟨i0, hi, hz0, hz1, hz2⟩ := info_parts (show (Tryz.prog.info? 74).map (fun i => (i.zero, i.size, i.bytes)) = some (some (.agg #[.string ByteArray.empty, .int .u32 0, .int .u32 0]), 3, 24) by kernel_rfl)
  have hb0 := (Below.refl w.heap.size w).alloc (Nat.le_refl _) (.cells #[.int .u32 s.1, .int .u32 s.2] 55)
  have hx0 := Blk.new w 55 #[.int .u32 s.1, .int .u32 s.2]
  have h1 := h.below hb0
  have hmd := rmade_any h1
  have hcs := isSymbol_any sym (w.alloc (.cells #[.int .u32 s.1, .int .u32 s.2] 55)) hsy
  have hbg := rbelongs_any h1 s hs
  have hno := fun x (w' : World) hb hx h0 => radd_no (w' := w') (sym := sym) (s := s) x h hb hx h0
  have hE1 : okSym sym = false → addE fs.length L sym s = 15 := fun h => by unfold addE; rw [h]; rfl
  have hE2 : okSym sym = true → belongs fs.length s = false → addE fs.length L sym s = 14 := fun h h2 => by unfold addE; rw [h, h2]; rfl
  have hE3 : okSym sym = true → belongs fs.length s = true → L.any (thereP sym s) = true → addE fs.length L sym s = 6 := fun h h2 h3 => by unfold addE; rw [h, h2, ← there_any, h3]; rfl
  have hE4 : okSym sym = true → belongs fs.length s = true → L.any (thereP sym s) = false → addE fs.length L sym s = if L.length = 256 then 4 else 0 := fun h h2 h3 => by unfold addE; rw [h, h2, ← there_any, h3]; rfl
  obtain ⟨W0, hW0⟩ : ∃ W, w.alloc (.cells #[.int .u32 s.1, .int .u32 s.2] 55) = W := ⟨_, rfl⟩
  have hsz0 : W0.heap.size = w.heap.size + 1 := by rw [← hW0]; simp
  rw [hW0] at hb0 hx0 h1 hmd hcs hbg
  have HW0 := Lib.hid hW0; have HB0 := Lib.hid hb0; have HX0 := Lib.hid hx0; have H1 := Lib.hid h1; have HMD := Lib.hid hmd; have HCS := Lib.hid hcs; have HBG := Lib.hid hbg; have HNO := Lib.hid hno; have HE1 := Lib.hid hE1; have HE2 := Lib.hid hE2; have HE3 := Lib.hid hE3; have HE4 := Lib.hid hE4; have HH := Lib.hid h; have HS := Lib.hid hS
  have hl256 := h.ok.l256
  clear hW0 hb0 hx0 h1 hmd hcs hbg hno hE1 hE2 hE3 hE4 h hS
  unfold maxLen at hsy
  cases hoks : okSym sym with
  | false =>
    rw [hoks] at HCS
    have HE := Lib.hid (HE1.out hoks)
    clear hoks
    go_enter Tryz.func194, Tryz.ntmps194
    go_wp2_with fail
    rw [HW0.out]
    go_wp2_with (first | (go_at_call 223; refine HMD.out.mono ?_; rintro e w' ⟨rfl, rfl⟩) | (go_at_call 224; refine HCS.out.mono ?_; rintro e w' ⟨rfl, rfl⟩))
    go_ret
    exact HNO.out 15 _ HB0.out HE.out (by decide)
  | true =>
    rw [hoks] at HCS
    cases hbel : belongs fs.length s with
    | false =>
      have HE := Lib.hid (HE2.out hoks hbel)
      rw [hbel] at HBG
      clear hoks hbel
      go_enter Tryz.func194, Tryz.ntmps194
      go_wp2_with fail
      rw [HW0.out]
      have c0 := HX0.out.cell 0
      have c1 := HX0.out.cell 1
      simp only [List.getElem?_toArray, List.getElem?_cons_zero, List.getElem?_cons_succ] at c0 c1
      go_wp2_with (first | (go_at_call 223; refine HMD.out.mono ?_; rintro e w' ⟨rfl, rfl⟩) | (go_at_call 224; refine HCS.out.mono ?_; rintro e w' ⟨rfl, rfl⟩))
      refine HBG.out.mono ?_
      rintro e w2 ⟨rfl, hb2⟩
      have HB2 := Lib.hid (HB0.out.trans (hb2.mono (by omega)))
      clear hb2 c0 c1
      go_wp2
      go_ret
      exact HNO.out 14 _ HB2.out HE.out (by decide)
    | true =>
      rw [hbel] at HBG
      have HE3' := Lib.hid (HE3.out hoks hbel); have HE4' := Lib.hid (HE4.out hoks hbel); have HOKS := Lib.hid hoks; have HBEL := Lib.hid hbel
      clear hoks hbel HE1 HE2 HE3 HE4
      go_enter Tryz.func194, Tryz.ntmps194
      go_wp2_with fail
      rw [HW0.out]
      have c0 := HX0.out.cell 0
      have c1 := HX0.out.cell 1
      simp only [List.getElem?_toArray, List.getElem?_cons_zero, List.getElem?_cons_succ] at c0 c1
      go_wp2_with (first | (go_at_call 223; refine HMD.out.mono ?_; rintro e w' ⟨rfl, rfl⟩) | (go_at_call 224; refine HCS.out.mono ?_; rintro e w' ⟨rfl, rfl⟩))
      refine HBG.out.mono ?_
      rintro e w2 ⟨rfl, hb2⟩
      clear c0 c1
      have h2 := H1.out.below hb2
      have hx2 := HX0.out.below hb2 (by omega)
      have hbb2 := HB0.out.trans (hb2.mono (by omega))
      have hs2 := hb2.size
      obtain ⟨A, c, v, ⟨k1, k2⟩, ⟨k3, k4⟩, ⟨k5, k6⟩, k16⟩ := h2
      obtain ⟨A2, c2, rfl, e1, e2⟩ := ownsRow_form k5
      have hsz2 : W0.heap.size ≤ w2.heap.size := hs2
      have HB2 := Lib.hid hbb2; have HX2 := Lib.hid hx2
      have K1 := Lib.hid k1; have K3 := Lib.hid k3; have K5 := Lib.hid k5; have K6 := Lib.hid k6; have K16 := Lib.hid k16; have K2 := Lib.hid k2
      clear hb2 hbb2 hx2 hs2 k1 k2 k3 k5 k6 k16 HBG HCS HMD HX0 H1
      go_wp2
      go_loopw [7] (fun i wr => ∃ k : Nat, k ≤ L.length ∧ i = .int .i64 k ∧ (L.take k).any (thereP sym s) = false ∧ Below w2.heap.size w2 wr) (fun i _ => L.length - (RowKit.intOf i).toNat)
      case atStart => exact ⟨0, by omega, rfl, rfl, Below.refl _ _⟩
      case round =>
        obtain ⟨k, hk, rfl, hall, hb⟩ := hrel
        obtain ⟨W, rfl⟩ : ∃ W, W = wr := ⟨_, rfl⟩
        have HALL := Lib.hid hall; have HBW := Lib.hid hb
        have cc := HX2.out.below hb (by omega)
        have d0 := cc.cell 0
        have d1 := cc.cell 1
        have gg := K1.out.below hb K1.out.lt
        have g2 := gg.cell 2
        simp only [List.getElem?_toArray, List.getElem?_cons_zero, List.getElem?_cons_succ] at d0 d1 g2
        have hsz := hb.size
        by_cases hlt : k < L.length
        · have hkI : (k : Int) < (L.length : Int) := by omega
          have hk0 : (0 : Int) ≤ (k : Int) := by omega
          have hrr : Reads w2 w2.heap.size 3 A2 L.length (L.flatMap namC) := Reads.of_own K5.out
          obtain ⟨ad, rfl, had, e0, e1', e2'⟩ := nam_cells (Reads.below hrr hb) hlt
          have hnx : (L.take (k + 1)).any (thereP sym s) = thereP sym s L[k] := by rw [List.take_succ_eq_append_getElem hlt, List.any_append, HALL.out]; simp
          have hyes : thereP sym s L[k] = true → L.any (thereP sym s) = true := fun h => List.any_eq_true.2 ⟨_, List.getElem_mem hlt, h⟩
          have hth : thereP sym s L[k] = (decide (bs L[k].1 = bs sym) || decide (L[k].2 = s)) := rfl
          rw [← beq_bs, ← snd_ne4] at hth
          generalize L[k] = x at *
          obtain ⟨x1, x2, x3⟩ := x
          have hth : thereP sym s (x1, x2, x3) = ((x1.toList == sym.toList) || (((x2 : Int) == (s.1 : Int)) && ((x3 : Int) == (s.2 : Int)))) := hth
          have HE6 := Lib.hid (fun h => HE3'.out (hyes h)); have HNX := Lib.hid hnx
          clear hall hb cc gg hrr hnx hyes
          cases q1 : (x1.toList == sym.toList) with
          | true =>
            have HE := Lib.hid (HE6.out (by rw [hth, q1]; rfl))
            clear hth
            go_wp2
            go_quiet (fail)
            go_wp2
            go_ret
            exact HNO.out 6 _ (HB2.out.trans ((below_drewN HBW.out _).mono (by omega))) HE.out (by decide)
          | false =>
            cases q2 : ((x2 : Int) == (s.1 : Int)) <;> cases q3 : ((x3 : Int) == (s.2 : Int))
            case true.true =>
              have HE := Lib.hid (HE6.out (by rw [hth, q1, q2, q3]; rfl))
              clear hth
              go_wp2
              go_quiet (fail)
              go_wp2
              go_ret
              exact HNO.out 6 _ (HB2.out.trans ((below_drewN HBW.out _).mono (by omega))) HE.out (by decide)
            all_goals
              have HTH : Hid ((L.take (k + 1)).any (thereP sym s) = false) := Lib.hid (HNX.out.trans (by simp [hth, q1, q2, q3]))
              clear hth
              go_wp2
              go_quiet (fail)
              go_wp2
              go_roundw
              case rel => exact ⟨k + 1, by omega, by go_num, HTH.out, below_drewN HBW.out _⟩
              case measure => simp [RowKit.intOf]; omega
        · obtain rfl : k = L.length := by omega
          have hall := HALL.out
          rw [List.take_length] at hall
          have hE := HE4'.out hall
          have HQ1 := Lib.hid (Bool.or_eq_false_iff.1 (there_any.symm.trans hall))
          clear hlt hall HALL
          by_cases h256 : L.length = 256
          · have h256I : (256 : Int) ≤ (L.length : Int) := by omega
            rw [if_pos h256] at hE
            have HE := Lib.hid hE
            clear hE h256
            go_wp2
            go_ret
            exact HNO.out 4 _ (HB2.out.trans (HBW.out.mono (by omega))) HE.out (by decide)
          · have h256I : ¬ (256 : Int) ≤ (L.length : Int) := by omega
            rw [if_neg h256] at hE
            have HE := Lib.hid hE
            have HO5 := Lib.hid (own_below K5.out hb); have HG5 := Lib.hid gg; have HX5 := Lib.hid cc
            have HC25 := Lib.hid (ChgS.of_below (S := fun _ => False) hb)
            have hrn := reads_newk W 74 (namC (sym, s)) 3 1 rfl
            have HRN := Lib.hid hrn
            clear hE hb cc gg hrn
            go_wp2
            refine wp_region_held_drew (S := (fun W => W.cell? ⟨w.heap.size, 0, none⟩ = some (.int .u32 s.1) ∧ W.cell? ⟨w.heap.size, 1, none⟩ = some (.int .u32 s.2))) (by kernel_rfl) ?_ (fun hHeld => ?_)
            · exact ⟨d0, d1⟩
            have hx6 : Blk W.drew w.heap.size 55 #[.int .u32 s.1, .int .u32 s.2] := HX5.out
            have hg6 : Blk W.drew g 255 #[.bool true, .slice A fs.length c, .slice A2 L.length c2] := HG5.out
            have ho6 : W.drew.ownsRow 0 74 3 (.slice A2 L.length c2) L.length (L.flatMap namC) := HO5.out
            have hgx : g ≠ w.heap.size := fun e => by have := HS.out _ K2.out; omega
            have hkeep : ∀ W', ChgS (fun b => b = g ∨ (Value.slice A2 L.length c2).ownBlock = some b) W.drew W' → W'.cell? ⟨w.heap.size, 0, none⟩ = some (.int .u32 s.1) ∧ W'.cell? ⟨w.heap.size, 1, none⟩ = some (.int .u32 s.2) := fun W' hc => by
              have hxo := own_blk_ne ho6 hx6 (by decide)
              have hxW := hx6.chgS hc (fun e => by
                rcases e with e | e
                · exact hgx e.symm
                · exact hxo e)
              have d0 := hxW.cell 0
              have d1 := hxW.cell 1
              simp only [List.getElem?_toArray, List.getElem?_cons_zero, List.getElem?_cons_succ] at d0 d1
              exact ⟨d0, d1⟩
            have hc6 : ChgS (fun _ => False) w2 W.drew := HC25.out.drewN 1
            have HKEEP := Lib.hid hkeep; have HG6 := Lib.hid hg6; have HO6 := Lib.hid ho6; have HC6 := Lib.hid hc6
            clear hx6 hg6 hkeep ho6 hc6 d0 d1 HG5 HX5 HC25 HO5 g2
            obtain ⟨w6, hw6⟩ : ∃ W', W.drew = W' := ⟨_, rfl⟩
            have hRN := HRN.out
            rw [hw6] at HO6 HKEEP hHeld HG6 HC6 ⊢
            have HRN := Lib.hid (reads_newk w6 74 (namC (sym, s)) 3 1 rfl)
            clear hRN
            have g2 := HG6.out.cell 2
            have fr2 := HG6.out.frozen 2
            simp only [List.getElem?_toArray, List.getElem?_cons_zero, List.getElem?_cons_succ] at g2
            have C0 := Lib.hid (ChgS.refl (fun b => b = g ∨ (Value.slice A2 L.length c2).ownBlock = some b) w6)
            have C1 := Lib.hid (C0.out.alloc (.cells #[.string sym, .int .u32 s.1, .int .u32 s.2] 74))
            have hsz6 := HC6.out.size
            have hgl6 : g < w6.heap.size := HG6.out.lt
            clear hw6
            refine wpAnyH_take (i := 0) (v := ?_) rfl (by kernel_rfl) (by kernel_rfl) (by kernel_rfl) (fun _ _ _ h => h) (Or.inl ⟨by rfl, ?_⟩) (by assumption) ?_
            rotate_left
            · intro w hSw
              (try dsimp only at hSw)
              go_simp <;> with_reducible rfl
            try simp only [Act.put, List.getElem_toArray, List.getElem_cons_succ, List.getElem_cons_zero, List.setIfInBounds_toArray, List.set_cons_zero, List.set_cons_succ]
            refine wpAnyH_take (i := 1) (v := ?_) rfl (by kernel_rfl) (by kernel_rfl) (by kernel_rfl) (fun _ _ _ h => h) (Or.inl ⟨by rfl, ?_⟩) (by assumption) ?_
            rotate_left
            · intro w hSw
              (try dsimp only at hSw)
              go_simp <;> with_reducible rfl
            try simp only [Act.put, List.getElem_toArray, List.getElem_cons_succ, List.getElem_cons_zero, List.setIfInBounds_toArray, List.set_cons_zero, List.set_cons_succ]
            refine wpAnyH_take (i := 2) (v := ?_) rfl (by kernel_rfl) (by kernel_rfl) (by kernel_rfl) (fun _ _ _ h => h) (Or.inl ⟨by rfl, ?_⟩) (by assumption) ?_
            rotate_left
            · intro w hSw
              (try dsimp only at hSw)
              go_simp <;> with_reducible rfl
            try simp only [Act.put, List.getElem_toArray, List.getElem_cons_succ, List.getElem_cons_zero, List.setIfInBounds_toArray, List.set_cons_zero, List.set_cons_succ]
            refine wpAnyH_take (i := 3) (v := ?_) rfl (by kernel_rfl) (by kernel_rfl) (by kernel_rfl) (fun _ _ _ h => h) (Or.inl ⟨by rfl, ?_⟩) (by assumption) ?_
            rotate_left
            · intro w hSw
              (try dsimp only at hSw)
              go_simp <;> with_reducible rfl
            try simp only [Act.put, List.getElem_toArray, List.getElem_cons_succ, List.getElem_cons_zero, List.setIfInBounds_toArray, List.set_cons_zero, List.set_cons_succ]
            refine wpAnyH_take (i := 5) (v := ?_) rfl (by kernel_rfl) (by kernel_rfl) (by kernel_rfl) (fun _ _ _ h => h) (Or.inl ⟨by rfl, ?_⟩) (by assumption) ?_
            rotate_left
            · intro w hSw
              (try dsimp only at hSw)
              go_simp <;> with_reducible rfl
            try simp only [Act.put, List.getElem_toArray, List.getElem_cons_succ, List.getElem_cons_zero, List.setIfInBounds_toArray, List.set_cons_zero, List.set_cons_succ]
            refine wpAnyH_take (i := 6) (v := ?_) rfl (by kernel_rfl) (by kernel_rfl) (by kernel_rfl) (fun _ _ _ h => h) (Or.inl ⟨by rfl, ?_⟩) (by assumption) ?_
            rotate_left
            · intro w hSw
              (try dsimp only at hSw)
              go_simp <;> with_reducible rfl
            try simp only [Act.put, List.getElem_toArray, List.getElem_cons_succ, List.getElem_cons_zero, List.setIfInBounds_toArray, List.set_cons_zero, List.set_cons_succ]
            refine wpAnyH_take (i := 7) (v := ?_) rfl (by kernel_rfl) (by kernel_rfl) (by kernel_rfl) (fun _ _ _ h => h) (Or.inl ⟨by rfl, ?_⟩) (by assumption) ?_
            rotate_left
            · intro w hSw
              (try dsimp only at hSw)
              go_simp <;> with_reducible rfl
            try simp only [Act.put, List.getElem_toArray, List.getElem_cons_succ, List.getElem_cons_zero, List.setIfInBounds_toArray, List.set_cons_zero, List.set_cons_succ]
            have hend : ∀ (w7 : World) (v7 : Value) (w8 : World), w7.ownsRow 0 74 3 v7 (L.length + 1) (L.flatMap namC ++ namC (sym, s)) → (v7.ownBlock = (Value.slice A2 L.length c2).ownBlock ∨ v7.ownBlock = some (w6.heap.size + 1)) → Blk w7 g 255 #[.bool true, .slice A fs.length c, .slice A2 L.length c2] →
                w7.setCell ⟨g, 2, none⟩ v7 = w8 → ChgS (fun b => b = g ∨ (Value.slice A2 L.length c2).ownBlock = some b) w6 w8 → RAddPost w S g fs L sym s (.returned (.int .i64 0)) w8 := fun w7 v7 w8 ho7 hor hg7 he hc8 => by
              have hsz8 := hc8.size
              have hadd : addL fs.length L (sym, s) = L ++ [(sym, s)] := by unfold addL; rw [if_pos HE.out]
              have hfl : (L ++ [(sym, s)]).length = L.length + 1 := by simp
              have hT : ChgS (fun b => b = g ∨ (Value.slice A2 L.length c2).ownBlock = some b) w2 w8 := (HC6.out.mono (fun _ _ h => h.elim)).new hc8 (fun i _ h => h)
              have hv7 : v7.ownBlock ≠ some g := own_blk_ne ho7 hg7 (by decide)
              have ho8 : w8.ownsRow 0 74 3 v7 (L.length + 1) ((L ++ [(sym, s)]).flatMap namC) := by
                rw [← he, List.flatMap_append]
                have e : [(sym, s)].flatMap namC = namC (sym, s) := by simp
                rw [e]
                exact own_chgS ho7 ((ChgS.refl (fun b => b = g) w7).setCell (p := ⟨g, 2, none⟩) (.inl rfl) v7) (fun k hk e => hv7 (e ▸ hk))
              have hg8 : Blk w8 g 255 #[.bool true, .slice A fs.length c, v7] := by
                rw [← he]; simpa using hg7.set_ 2 v7
              have hl8 : ∀ b, v7.ownBlock = some b → b < w8.heap.size := fun b hb => (ho8.lt b hb).2
              have hfown := own_own_ne K3.out K5.out (by decide)
              refine ⟨by rw [HE.out], ?_, ?_⟩
              · rw [hadd]
                refine ⟨A, c, v7, ⟨hg8, .inl K2.out⟩, ⟨own_chgS K3.out hT (fun k hk h => ?_), fun b hb => .inl (k4 b hb)⟩, ⟨by rw [hfl]; exact ho8, fun b hb => ?_⟩, ⟨K16.out.f24, K16.out.feat, by rw [hfl]; omega, fun x hx => ?_, nodup_add K16.out.nd HQ1.out.1⟩⟩
                · rcases h with h | h
                  · exact own_blk_ne K3.out K1.out (by decide) (h ▸ hk)
                  · rcases hfown with e | e
                    · rw [e] at hk; cases hk
                    · exact e (hk.trans h.symm)
                · rcases hor with e | e
                  · exact .inl (K6.out b (by rw [← e]; exact hb))
                  · rw [hb] at e
                    injection e with e
                    exact .inr ⟨by omega, hl8 b hb⟩
                · rcases List.mem_append.1 hx with hx | hx
                  · exact K16.out.sym x hx
                  · rw [List.mem_singleton.1 hx]; exact ⟨HOKS.out, HBEL.out, hs⟩
              · refine (ChgS.of_below HB2.out).new hT (fun i _ h => ?_)
                rcases h with h | h
                · rw [h]; exact K2.out
                · exact K6.out _ h
            have HEND := Lib.hid hend
            clear hend
            refine wpAnyH_ready (rs := [4, 8]) (by kernel_rfl) (by simp) ?_
            refine AllReadyH.cons rfl (fun K hK => ?_) (AllReadyH.cons rfl (fun K hK => ?_) AllReadyH.nil)
            · go_simp
              refine hK.out _ _ ?_ (fun hHeld' => ?_)
              · (try dsimp only)
                exact HKEEP.out _ (by first | exact C0.out | exact C1.out | exact C2.out | exact C3.out)
              clear hK K hHeld
              have hHeld := hHeld'
              clear hHeld'
              refine wpAnyH_ready (rs := [8]) (by kernel_rfl) (by simp) ?_
              refine AllReadyH.cons rfl (fun K hK => ?_) AllReadyH.nil
              go_simp
              refine hK.out _ _ ?_ (fun hHeld' => ?_)
              · (try dsimp only)
                exact HKEEP.out _ (by first | exact C0.out | exact C1.out | exact C2.out | exact C3.out)
              clear hK K hHeld
              have hHeld := hHeld'
              clear hHeld'
              refine wpAnyH_ready (rs := [9]) (by kernel_rfl) (by simp) ?_
              refine AllReadyH.cons rfl (fun K hK => ?_) AllReadyH.nil
              refine step_append_any _ rfl _ _ 23 rfl 0 74 i0 (.agg #[.string ByteArray.empty, .int .u32 0, .int .u32 0]) 3 24 Tryz.underlying23 hi hz0 hz1 hz2 rfl (by decide) _ _ _ rfl (HO6.out.alloc _) _ _ _ _ (namC (sym, s)) rfl HRN.out (by simp [Value.oneCell']) (by unfold maxLen; omega) (by omega) (by omega) ?_
              intro v7 w7 hown7 hgrow7 hor7
              have C2 := Lib.hid (C1.out.grown hgrow7 (fun k hk => .inl (.inr hk)))
              refine hK.out _ _ ?_ (fun hHeld' => ?_)
              · (try dsimp only)
                exact HKEEP.out _ (by first | exact C0.out | exact C1.out | exact C2.out | exact C3.out)
              clear hK K hHeld
              have hHeld := hHeld'
              clear hHeld'
              obtain ⟨A7, c7, rfl, e71, e72⟩ := ownsRow_form hown7
              have hg7 := (HG6.out.alloc (.cells #[.string sym, .int .u32 s.1, .int .u32 s.2] 74)).grown hgrow7 (fun e => by have := own_blk_ne HO6.out HG6.out (by decide); exact this e.symm)
              have g27 := hg7.cell 2
              have fr27 := hg7.frozen 2
              simp only [List.getElem?_toArray, List.getElem?_cons_zero, List.getElem?_cons_succ] at g27
              have C3 := Lib.hid (C2.out.setCell (p := ⟨g, 2, none⟩) (.inl (.inl rfl)) (.slice A7 (L.length + 1) c7))
              have hfin := HEND.out _ _ _ hown7 (hor7.imp id (fun e => e.trans (by rw [World.size_alloc]))) hg7 rfl C3.out
              have HFIN := Lib.hid hfin
              clear hown7 hgrow7 hg7 hor7 hfin
              refine wpAnyH_take (i := 10) (v := ?_) rfl (by kernel_rfl) (by kernel_rfl) (by kernel_rfl) (fun _ _ _ h => h) (Or.inl ⟨by rfl, ?_⟩) (by assumption) ?_
              rotate_left
              · intro w hSw
                (try dsimp only at hSw)
                go_simp <;> with_reducible rfl
              try simp only [Act.put, List.getElem_toArray, List.getElem_cons_succ, List.getElem_cons_zero, List.setIfInBounds_toArray, List.set_cons_zero, List.set_cons_succ]
              refine wpAnyH_take (i := 11) (v := ?_) rfl (by kernel_rfl) (by kernel_rfl) (by kernel_rfl) (fun _ _ _ h => h) (Or.inl ⟨by rfl, ?_⟩) (by assumption) ?_
              rotate_left
              · intro w hSw
                (try dsimp only at hSw)
                go_simp <;> with_reducible rfl
              try simp only [Act.put, List.getElem_toArray, List.getElem_cons_succ, List.getElem_cons_zero, List.setIfInBounds_toArray, List.set_cons_zero, List.set_cons_succ]
              refine wpAnyH_ready (rs := [12]) (by kernel_rfl) (by simp) ?_
              refine AllReadyH.cons rfl (fun K hK => ?_) AllReadyH.nil
              go_simp
              refine hK.out _ _ ?_ (fun hHeld' => ?_)
              · (try dsimp only)
                exact HKEEP.out _ (by first | exact C0.out | exact C1.out | exact C2.out | exact C3.out)
              clear hK K hHeld
              have hHeld := hHeld'
              clear hHeld'
              refine wpAnyH_done (by kernel_rfl) ?_ _
              clear hHeld g27 fr27
              go_wp2
              go_ret
              exact HFIN.out
            · go_simp
              refine hK.out _ _ ?_ (fun hHeld' => ?_)
              · (try dsimp only)
                exact HKEEP.out _ (by first | exact C0.out | exact C1.out | exact C2.out | exact C3.out)
              clear hK K hHeld
              have hHeld := hHeld'
              clear hHeld'
              refine wpAnyH_ready (rs := [4]) (by kernel_rfl) (by simp) ?_
              refine AllReadyH.cons rfl (fun K hK => ?_) AllReadyH.nil
              go_simp
              refine hK.out _ _ ?_ (fun hHeld' => ?_)
              · (try dsimp only)
                exact HKEEP.out _ (by first | exact C0.out | exact C1.out | exact C2.out | exact C3.out)
              clear hK K hHeld
              have hHeld := hHeld'
              clear hHeld'
              refine wpAnyH_ready (rs := [9]) (by kernel_rfl) (by simp) ?_
              refine AllReadyH.cons rfl (fun K hK => ?_) AllReadyH.nil
              refine step_append_any _ rfl _ _ 23 rfl 0 74 i0 (.agg #[.string ByteArray.empty, .int .u32 0, .int .u32 0]) 3 24 Tryz.underlying23 hi hz0 hz1 hz2 rfl (by decide) _ _ _ rfl (HO6.out.alloc _) _ _ _ _ (namC (sym, s)) rfl HRN.out (by simp [Value.oneCell']) (by unfold maxLen; omega) (by omega) (by omega) ?_
              intro v7 w7 hown7 hgrow7 hor7
              have C2 := Lib.hid (C1.out.grown hgrow7 (fun k hk => .inl (.inr hk)))
              refine hK.out _ _ ?_ (fun hHeld' => ?_)
              · (try dsimp only)
                exact HKEEP.out _ (by first | exact C0.out | exact C1.out | exact C2.out | exact C3.out)
              clear hK K hHeld
              have hHeld := hHeld'
              clear hHeld'
              obtain ⟨A7, c7, rfl, e71, e72⟩ := ownsRow_form hown7
              have hg7 := (HG6.out.alloc (.cells #[.string sym, .int .u32 s.1, .int .u32 s.2] 74)).grown hgrow7 (fun e => by have := own_blk_ne HO6.out HG6.out (by decide); exact this e.symm)
              have g27 := hg7.cell 2
              have fr27 := hg7.frozen 2
              simp only [List.getElem?_toArray, List.getElem?_cons_zero, List.getElem?_cons_succ] at g27
              have C3 := Lib.hid (C2.out.setCell (p := ⟨g, 2, none⟩) (.inl (.inl rfl)) (.slice A7 (L.length + 1) c7))
              have hfin := HEND.out _ _ _ hown7 (hor7.imp id (fun e => e.trans (by rw [World.size_alloc]))) hg7 rfl C3.out
              have HFIN := Lib.hid hfin
              clear hown7 hgrow7 hg7 hor7 hfin
              refine wpAnyH_take (i := 10) (v := ?_) rfl (by kernel_rfl) (by kernel_rfl) (by kernel_rfl) (fun _ _ _ h => h) (Or.inl ⟨by rfl, ?_⟩) (by assumption) ?_
              rotate_left
              · intro w hSw
                (try dsimp only at hSw)
                go_simp <;> with_reducible rfl
              try simp only [Act.put, List.getElem_toArray, List.getElem_cons_succ, List.getElem_cons_zero, List.setIfInBounds_toArray, List.set_cons_zero, List.set_cons_succ]
              refine wpAnyH_take (i := 11) (v := ?_) rfl (by kernel_rfl) (by kernel_rfl) (by kernel_rfl) (fun _ _ _ h => h) (Or.inl ⟨by rfl, ?_⟩) (by assumption) ?_
              rotate_left
              · intro w hSw
                (try dsimp only at hSw)
                go_simp <;> with_reducible rfl
              try simp only [Act.put, List.getElem_toArray, List.getElem_cons_succ, List.getElem_cons_zero, List.setIfInBounds_toArray, List.set_cons_zero, List.set_cons_succ]
              refine wpAnyH_ready (rs := [12]) (by kernel_rfl) (by simp) ?_
              refine AllReadyH.cons rfl (fun K hK => ?_) AllReadyH.nil
              go_simp
              refine hK.out _ _ ?_ (fun hHeld' => ?_)
              · (try dsimp only)
                exact HKEEP.out _ (by first | exact C0.out | exact C1.out | exact C2.out | exact C3.out)
              clear hK K hHeld
              have hHeld := hHeld'
              clear hHeld'
              refine wpAnyH_done (by kernel_rfl) ?_ _
              clear hHeld g27 fr27
              go_wp2
              go_ret
              exact HFIN.out
end Go.Proofs.YtmepaeahchiglaaGreatDoor
