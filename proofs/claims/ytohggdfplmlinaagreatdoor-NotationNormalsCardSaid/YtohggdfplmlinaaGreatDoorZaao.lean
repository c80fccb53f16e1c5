/-
  layer 3 at the second seat: the reference's Sound of a symbol. Conditions: an inventory in memory.
-/
import Derived.Test.YtohggdfplmlinaaGreatDoorZaNtO3
import Derived.Test.YtohggdfplmlinaaGreatDoorZaam
import Derived.Test.YtohggdfplmlinaaGreatDoorZaag
import Derived.Test.YtohggdfplmlinaaGreatDoorZaan
namespace Go.Proofs.YtohggdfplmlinaaGreatDoor
open Go.RowKit Go.Lib

theorem rsnd_ret {Q : Ending → World → Prop} {a : Act} {W : World} {b x y : Nat} (v : Value) (hd : a.defers = []) (ha : a.tmps[4]? = some (.pointer (some ⟨b, 0, none⟩))) (hv : a.tmps[5]? = some v) (h0 : ∃ u, W.cell? ⟨b, 0, none⟩ = some u) (h1 : ∃ u, W.cell? ⟨b, 1, none⟩ = some u)
    (h : Q (.returned (.tuple #[sndV (x, y), v])) ((W.setCell ⟨b, 0, none⟩ (.int .u32 x)).setCell ⟨b, 1, none⟩ (.int .u32 y))) : bodyPost Tryz.prog Tryz.f74 Q .ret a ((W.setCell ⟨b, 0, none⟩ (.int .u32 x)).setCell ⟨b, 1, none⟩ (.int .u32 y)) := by
  obtain ⟨u0, h0⟩ := h0
  obtain ⟨u1, h1⟩ := h1
  have e1 : ((W.setCell ⟨b, 0, none⟩ (.int .u32 x)).setCell ⟨b, 1, none⟩ (.int .u32 y)).cell? ⟨b, 0, none⟩ = some (.int .u32 x) := by
    rw [World.cell?_setCell_other _ _ _ _ (by simp)]
    exact World.cell?_setCell_same _ _ _ h0
  have e2 : ((W.setCell ⟨b, 0, none⟩ (.int .u32 x)).setCell ⟨b, 1, none⟩ (.int .u32 y)).cell? ⟨b, 1, none⟩ = some (.int .u32 y) := by
    obtain ⟨v', hv'⟩ := cell?_setCell_some (x := .int .u32 x) (p := ⟨b, 0, none⟩) h1
    exact World.cell?_setCell_same _ _ _ hv'
  generalize (W.setCell ⟨b, 0, none⟩ (.int .u32 x)).setCell ⟨b, 1, none⟩ (.int .u32 y) = W2 at *
  exact bodyPost_ret (v := .tuple #[sndV (x, y), v]) (by simp [results, Tryz.results74, go_sem, ha, hv, e1, e2]) hd h
theorem soundOf_at {L : List Nam} {u : List UInt8} {k : Nat} (hk : k < L.length) (hn : hasSym (L.take k) u = false) (h : bs L[k].1 = u) : soundOf L u = L[k].2 ∧ hasSym L u = true := by
  constructor
  · have e : L = L.take k ++ L[k] :: L.drop (k + 1) := by rw [← List.drop_eq_getElem_cons hk, List.take_append_drop]
    unfold soundOf
    have hf : (L.take k).find? (fun x => decide (bs x.1 = u)) = none := List.find?_eq_none.2 fun x hx => by
      unfold hasSym at hn
      simpa using List.any_eq_false.1 hn x hx
    have h2 : L.find? (fun x => decide (bs x.1 = u)) = some L[k] := by
      conv => lhs; rw [e]
      rw [List.find?_append, hf, List.find?_cons_of_pos (by simpa using h)]; rfl
    rw [h2]; rfl
  · unfold hasSym
    exact List.any_eq_true.2 ⟨L[k], List.getElem_mem hk, decide_eq_true h⟩
theorem soundOf_no {L : List Nam} {u : List UInt8} (hn : hasSym L u = false) : soundOf L u = (0, 0) := by
  unfold soundOf
  rw [List.find?_eq_none.2 fun x hx => by
    unfold hasSym at hn
    simpa using List.any_eq_false.1 hn x hx]
  rfl
set_option linter.unusedSimpArgs false in
set_option maxRecDepth 20000 in
set_option maxHeartbeats 2000000 in
theorem rsound1_any {w : World} {S : Nat → Prop} {g : Nat} {fs : List ByteArray} {L : List Nam} (s : ByteArray) (h : RInv w S g fs L) :
    Calls Tryz.prog 74 #[wptr g, .string s] w fun e w' => e = .returned (.tuple #[sndV (soundOf L (bs s)), .bool (hasSym L (bs s))]) ∧ Below w.heap.size w w' := by
  have hb0 := (Below.refl w.heap.size w).alloc (Nat.le_refl _) (.cells #[.int .u32 0, .int .u32 0] 30)
  have hx0 := Blk.new w 30 #[.int .u32 0, .int .u32 0]
  have h1 := h.below hb0
  have hmd := rmade_any h1
  have h256 := h.ok.l256
  obtain ⟨W0, hW0⟩ : ∃ W, w.alloc (.cells #[.int .u32 0, .int .u32 0] 30) = W := ⟨_, rfl⟩
  rw [hW0] at hb0 hx0 h1 hmd
  obtain ⟨A1, c1, v, ⟨k1, -⟩, -, ⟨k3, -⟩, -⟩ := h1
  obtain ⟨A2, c2, rfl, -, -⟩ := ownsRow_form k3
  have g2 := k1.cell 2
  have r0 := hx0.cell 0
  have r1 := hx0.cell 1
  have fr0 := hx0.frozen 0
  have fr1 := hx0.frozen 1
  simp only [List.getElem?_toArray, List.getElem?_cons_zero, List.getElem?_cons_succ] at g2 r0 r1
  obtain ⟨r, hr⟩ : ∃ r, hasSym L (bs s) = r := ⟨_, rfl⟩
  obtain ⟨R, hR⟩ : ∃ R, soundOf L (bs s) = R := ⟨_, rfl⟩
  rw [hr, hR]
  have HRR := Lib.hid hr; have HRS := Lib.hid hR
  have HMD := Lib.hid hmd; have HR := Lib.hid (Reads.of_own k3); have HB0 := Lib.hid hb0; have HW := Lib.hid hW0
  clear hmd k1 k3 h hb0 hx0 hW0 hr hR
  obtain ⟨R1, R2⟩ := R
  go_enter Tryz.func74, Tryz.ntmps74
  go_wp2_with fail
  rw [HW.out]
  clear HW
  refine HMD.out.mono ?_
  rintro e w1 ⟨rfl, rfl⟩
  clear HMD
  go_wp2
  go_loopw [6] (fun i wr => ∃ k : Nat, k ≤ L.length ∧ i = .int .i64 k ∧ hasSym (L.take k) (bs s) = false ∧ W0 = wr) (fun i _ => L.length - (RowKit.intOf i).toNat)
  case atStart => exact ⟨0, by omega, rfl, rfl, rfl⟩
  case round =>
    obtain ⟨k, hk, rfl, hno, rfl⟩ := hrel
    have HNO := Lib.hid hno
    clear hno
    by_cases hlt : k < L.length
    · have hkI : (k : Int) < (L.length : Int) := by omega
      have hk0 : (0 : Int) ≤ (k : Int) := by omega
      obtain ⟨ad, rfl, had, e0, e1, e2⟩ := nam_cells HR.out hlt
      have hq := beq_bs L[k].1 s
      have hat := soundOf_at hlt HNO.out (u := bs s)
      have hnx : hasSym (L.take (k + 1)) (bs s) = decide (bs L[k].1 = bs s) := by
        have h := HNO.out
        unfold hasSym at h ⊢
        rw [List.take_succ_eq_append_getElem hlt, List.any_append, h]; simp
      generalize L[k] = x at *
      obtain ⟨x1, x2, x3⟩ := x
      simp only [] at *
      by_cases hs : bs x1 = bs s
      · rw [decide_eq_true hs] at hq
        obtain ⟨h1, h2⟩ := hat hs
        obtain rfl : r = true := HRR.out.symm.trans h2
        obtain ⟨rfl, rfl⟩ : R1 = x2 ∧ R2 = x3 := by
          have := HRS.out.symm.trans h1
          exact ⟨congrArg Prod.fst this, congrArg Prod.snd this⟩
        clear hat hnx hs h1 h2 HRS HRR
        go_wp2
        exact rsnd_ret (.bool true) rfl rfl rfl ⟨_, r0⟩ ⟨_, r1⟩ ⟨rfl, (HB0.out.setCell (Nat.le_refl _) _).setCell (Nat.le_refl _) _⟩
      · rw [decide_eq_false hs] at hq hnx
        have HNX := Lib.hid hnx
        clear hat hnx hs
        go_wp2
        go_roundw
        case rel => exact ⟨k + 1, by omega, by go_num, HNX.out, trivial⟩
        case measure => simp [RowKit.intOf]; omega
    · obtain rfl : k = L.length := by omega
      have hno := HNO.out
      rw [List.take_length] at hno
      obtain rfl : r = false := HRR.out.symm.trans hno
      obtain ⟨rfl, rfl⟩ : R1 = 0 ∧ R2 = 0 := by
        have := HRS.out.symm.trans (soundOf_no hno)
        exact ⟨congrArg Prod.fst this, congrArg Prod.snd this⟩
      clear hno HRS HRR HNO
      go_wp2
      exact rsnd_ret (.bool false) rfl rfl rfl ⟨_, r0⟩ ⟨_, r1⟩ ⟨rfl, (HB0.out.setCell (Nat.le_refl _) _).setCell (Nat.le_refl _) _⟩
end Go.Proofs.YtohggdfplmlinaaGreatDoor
namespace Go.Proofs.YtohggdfplmlinaaGreatDoor
open Go.RowKit Go.Lib

set_option maxRecDepth 20000 in
theorem begins_any (s p : ByteArray) (w : World) : Calls Tryz.prog 96 #[.string s, .string p] w fun e w' => e = .returned (.bool ((bs p).isPrefixOf (bs s))) ∧ w = w' := by
  have hq := beq_bs (s.extract 0 p.size) p
  rw [bs_pre, ← size_bs p, ← prefix_take, size_bs] at hq
  obtain ⟨r, hr⟩ : ∃ r, (bs p).isPrefixOf (bs s) = r := ⟨_, rfl⟩
  rw [hr] at hq ⊢
  by_cases h : p.size ≤ s.size
  · have hI : (p.size : Int) ≤ (s.size : Int) := by omega
    clear hr
    go_enter Tryz.func96, Tryz.ntmps96
    go_wp2
    go_ret
    exact ⟨rfl, rfl⟩
  · have hI : ¬ (p.size : Int) ≤ (s.size : Int) := by omega
    obtain rfl : r = false := by
      rw [← hr, prefix_take, decide_eq_false]
      intro e
      have := congrArg List.length e
      rw [List.length_take, size_bs, size_bs] at this
      omega
    clear hr hq
    go_enter Tryz.func96, Tryz.ntmps96
    go_wp2
    go_ret
    exact ⟨rfl, rfl⟩
/-! The longest symbol, one symbol more. -/
theorem symAt_add {L : List Nam} {x : Nam} {t : List UInt8} (n : Nat) : symAt (L ++ [x]) t n = (symAt L t n || (decide (n = x.1.size) && (bs x.1).isPrefixOf t)) := by
  unfold symAt hasSym
  rw [List.any_append, List.any_cons, List.any_nil, Bool.or_false, prefix_take, size_bs]
  by_cases hn : n ≤ t.length
  · rw [decide_eq_true hn, Bool.true_and, Bool.true_and]
    congr 1
    by_cases e : n = x.1.size
    · subst e
      rw [decide_eq_true rfl, Bool.true_and]
      exact decide_eq_decide.2 eq_comm
    · rw [decide_eq_false e, Bool.false_and, decide_eq_false]
      intro h
      have := congrArg List.length h
      rw [size_bs, List.length_take] at this
      omega
  · rw [decide_eq_false hn, Bool.false_and, Bool.false_and, Bool.false_or]
    symm
    by_cases e : n = x.1.size
    · subst e
      rw [decide_eq_true rfl, Bool.true_and, decide_eq_false]
      intro h
      have := congrArg List.length h
      rw [size_bs, List.length_take] at this
      omega
    · rw [decide_eq_false e, Bool.false_and]
theorem longN_add {L : List Nam} {x : Nam} {t : List UInt8} (hx : okSym x.1 = true) : longN (L ++ [x]) t = if (bs x.1).isPrefixOf t = true ∧ longN L t < x.1.size then x.1.size else longN L t := by
  unfold okSym consC at hx
  simp only [Bool.and_eq_true, decide_eq_true_eq] at hx
  obtain ⟨⟨h1, h4⟩, -⟩ := hx
  unfold longN
  rw [symAt_add, symAt_add, symAt_add, symAt_add]
  generalize (bs x.1).isPrefixOf t = p
  generalize x.1.size = m at *
  generalize symAt L t 4 = a4
  generalize symAt L t 3 = a3
  generalize symAt L t 2 = a2
  generalize symAt L t 1 = a1
  rcases (by omega : m = 1 ∨ m = 2 ∨ m = 3 ∨ m = 4) with rfl | rfl | rfl | rfl <;> cases p <;> cases a4 <;> cases a3 <;> cases a2 <;> cases a1 <;> rfl
theorem longN_nil {t : List UInt8} : longN [] t = 0 := by
  have h : ∀ n, symAt [] t n = false := fun n => by unfold symAt hasSym; simp
  unfold longN
  rw [h, h, h, h]; rfl
set_option maxRecDepth 20000 in
set_option maxHeartbeats 2000000 in
theorem rlongest_any {w : World} {S : Nat → Prop} {g : Nat} {fs : List ByteArray} {L : List Nam} (s : ByteArray) (h : RInv w S g fs L) :
    Calls Tryz.prog 73 #[wptr g, .string s] w fun e w' => ∃ t, e = .returned (.tuple #[.string t, .bool (decide (0 < longN L (bs s)))]) ∧ (bs t = (bs s).take (longN L (bs s)) ∧ t.size = longN L (bs s)) ∧ w = w' := by
  obtain ⟨N, hN⟩ : ∃ N, longN L (bs s) = N := ⟨_, rfl⟩
  obtain ⟨q, hq⟩ : ∃ q, decide (0 < N) = q := ⟨_, rfl⟩
  rw [hN, hq]
  have HNN := Lib.hid hN; have HQ := Lib.hid hq
  clear hN hq
  have hmd := rmade_any h
  have h256 := h.ok.l256
  have hsym := h.ok.sym
  obtain ⟨A1, c1, v, ⟨h1, -⟩, -, ⟨h3, -⟩, -⟩ := h
  obtain ⟨A2, c2, rfl, -, -⟩ := ownsRow_form h3
  have g2 := h1.cell 2
  simp only [List.getElem?_toArray, List.getElem?_cons_zero, List.getElem?_cons_succ] at g2
  have hr := Reads.of_own h3
  have HMD := Lib.hid hmd; have HR := Lib.hid hr; have HSY := Lib.hid hsym
  clear hmd h1 h3 hr hsym
  go_enter Tryz.func73, Tryz.ntmps73
  go_wp2_with fail
  refine HMD.out.mono ?_
  rintro e w1 ⟨rfl, rfl⟩
  go_wp2
  go_loopw [6, 7] (fun b i wr => ∃ (k : Nat) (t : ByteArray), k ≤ L.length ∧ i = .int .i64 k ∧ b = .string t ∧ (bs t = (bs s).take (longN (L.take k) (bs s)) ∧ t.size = longN (L.take k) (bs s)) ∧ w = wr) (fun _ i _ => L.length - (RowKit.intOf i).toNat)
  case atStart => exact ⟨0, ⟨#[]⟩, by omega, rfl, rfl, ⟨by rw [List.take_zero, longN_nil]; rfl, by rw [List.take_zero, longN_nil]; rfl⟩, rfl⟩
  case round =>
    obtain ⟨k, t, hk, rfl, rfl, ⟨ht, htz⟩, rfl⟩ := hrel
    have HT := Lib.hid ht
    clear ht
    by_cases hlt : k < L.length
    · have hkI : (k : Int) < (L.length : Int) := by omega
      have hk0 : (0 : Int) ≤ (k : Int) := by omega
      obtain ⟨ad, rfl, had, e0, -, -⟩ := nam_cells HR.out hlt
      have hox := (HSY.out _ (List.getElem_mem hlt)).1
      have hnx := (show longN (L.take (k + 1)) (bs s) = longN (L.take k ++ [L[k]]) (bs s) by rw [List.take_succ_eq_append_getElem hlt]).trans (longN_add hox)
      have hq := beq_bs (s.extract 0 L[k].1.size) L[k].1
      rw [bs_pre, ← size_bs L[k].1, ← prefix_take, size_bs] at hq
      have hpt := prefix_take (bs s) (bs L[k].1)
      have hx4 : L[k].1.size ≤ 4 := by
        unfold okSym consC at hox
        simp only [Bool.and_eq_true, decide_eq_true_eq] at hox
        exact hox.1.2
      generalize L[k].1 = x at *
      generalize (bs x).isPrefixOf (bs s) = p at *
      rw [← htz] at hnx
      have HNX := Lib.hid hnx; have HPT := Lib.hid hpt
      clear hnx hpt hox
      by_cases hl : t.size < x.size
      · have hlI : (t.size : Int) < (x.size : Int) := by omega
        by_cases hxs : x.size ≤ s.size
        · have hxI : (x.size : Int) ≤ (s.size : Int) := by omega
          cases p with
          | true =>
            have hn : longN (L.take (k + 1)) (bs s) = x.size := HNX.out.trans (if_pos ⟨rfl, hl⟩)
            have hxt : bs x = (bs s).take x.size := by
              have := of_decide_eq_true HPT.out.symm
              rw [size_bs] at this; exact this.symm
            have HN := Lib.hid hn; have HX := Lib.hid hxt
            clear hn hxt
            go_wp2
            go_roundw
            case rel => exact ⟨k + 1, x, by omega, by go_num, rfl, ⟨by rw [HN.out]; exact HX.out, HN.out.symm⟩, trivial⟩
            case measure => simp [RowKit.intOf]; omega
          | false =>
            have hn : longN (L.take (k + 1)) (bs s) = t.size := HNX.out.trans (if_neg (fun h => by cases h.1))
            have HN := Lib.hid hn
            clear hn
            go_wp2
            go_roundw
            case rel => exact ⟨k + 1, t, by omega, by go_num, rfl, ⟨by rw [HN.out, htz]; exact HT.out, HN.out.symm⟩, trivial⟩
            case measure => simp [RowKit.intOf]; omega
        · have hxI : ¬ (x.size : Int) ≤ (s.size : Int) := by omega
          have hn : longN (L.take (k + 1)) (bs s) = t.size := by
            refine HNX.out.trans (if_neg (fun h => ?_))
            have h2 := HPT.out
            rw [h.1] at h2
            have := congrArg List.length (of_decide_eq_true h2.symm)
            rw [List.length_take, size_bs, size_bs] at this
            omega
          have HN := Lib.hid hn
          clear hn hq
          go_wp2
          go_roundw
          case rel => exact ⟨k + 1, t, by omega, by go_num, rfl, ⟨by rw [HN.out, htz]; exact HT.out, HN.out.symm⟩, trivial⟩
          case measure => simp [RowKit.intOf]; omega
      · have hlI : ¬ (t.size : Int) < (x.size : Int) := by omega
        have hn : longN (L.take (k + 1)) (bs s) = t.size := HNX.out.trans (if_neg (fun h => hl h.2))
        have HN := Lib.hid hn
        clear hn hq
        go_wp2
        go_roundw
        case rel => exact ⟨k + 1, t, by omega, by go_num, rfl, ⟨by rw [HN.out, htz]; exact HT.out, HN.out.symm⟩, trivial⟩
        case measure => simp [RowKit.intOf]; omega
    · obtain rfl : k = L.length := by omega
      have ht := HT.out
      rw [List.take_length] at ht htz
      have hz := beq_nil t
      rw [HNN.out] at ht htz
      have hb : decide (bs t = []) = !q := by
        rw [← HQ.out, ← htz, ← size_bs]
        cases bs t <;> rfl
      rw [hb] at hz
      have HT := Lib.hid (And.intro ht htz)
      clear ht htz hb HQ
      cases q with
      | true =>
        go_wp2
        go_ret2
        exact ⟨t, rfl, HT.out, rfl⟩
      | false =>
        go_wp2
        go_ret2
        exact ⟨t, rfl, HT.out, rfl⟩
end Go.Proofs.YtohggdfplmlinaaGreatDoor
namespace Go.Proofs.YtohggdfplmlinaaGreatDoor
open Go.RowKit Go.Lib

theorem signC_nat (c : UInt8) : signC c = decide (c.toNat = 58 ∨ c.toNat = 39 ∨ c.toNat = 34 ∨ c.toNat = 126 ∨ c.toNat = 94 ∨ c.toNat = 95 ∨ c.toNat = 61 ∨ c.toNat = 96) := by
  rw [Bool.eq_iff_iff]
  simp [signC, ← UInt8.toNat_inj]
set_option linter.unusedSimpArgs false in
set_option maxRecDepth 20000 in
theorem sign_any (c : UInt8) (w : World) : Calls Tryz.prog 89 #[.int .u8 c.toNat] w fun e w' => e = .returned (.bool (signC c)) ∧ w = w' := by
  have hc := c.toNat_lt
  obtain ⟨r, hr⟩ : ∃ r, signC c = r := ⟨_, rfl⟩
  rw [hr]
  rw [signC_nat] at hr
  generalize c.toNat = n at *
  have HR := Lib.hid hr
  clear hr
  go_enter Tryz.func89, Tryz.ntmps89
  go_wp2
  all_goals
    go_ret
    refine ⟨?_, rfl⟩
    rw [← HR.out]
    simp
    try (first | omega | (rw [Bool.eq_iff_iff]; simp only [Bool.or_eq_true, Bool.and_eq_true, decide_eq_true_eq, beq_iff_eq]; omega))
set_option maxRecDepth 20000 in
set_option maxHeartbeats 2000000 in
theorem markText_any (s : ByteArray) (w : World) (hs : s.size ≤ maxLen) : Calls Tryz.prog 64 #[.string s] w fun e w' => e = .returned (.bool (okMark s)) ∧ w = w' := by
  unfold maxLen at hs
  have hl := size_bs s
  obtain ⟨r, hr⟩ : ∃ r, okMark s = r := ⟨_, rfl⟩
  rw [hr]
  unfold okMark consC at hr
  have HR := Lib.hid hr
  clear hr
  go_enter Tryz.func64, Tryz.ntmps64
  go_wp2
  go_loopw [3] (fun i wr => ∃ k : Nat, k ≤ s.size ∧ i = .int .i64 k ∧ ((bs s).take k).all signC = true ∧ w = wr) (fun i _ => s.size - (RowKit.intOf i).toNat)
  case atStart => exact ⟨0, by omega, rfl, rfl, rfl⟩
  case round =>
    obtain ⟨k, hk, rfl, hall, rfl⟩ := hrel
    have HALL := Lib.hid hall
    clear hall
    by_cases hlt : k < s.size
    · have hkI : (k : Int) < (s.size : Int) := by omega
      have hk0 : (0 : Int) ≤ (k : Int) := by omega
      have hkb : k < (bs s).length := by rw [hl]; exact hlt
      have hk256 : (s[k].toNat : Int) < 256 := by have := s[k].toNat_lt; omega
      have hnx := all_take_next signC (bs s) k hkb
      rw [HALL.out, Bool.true_and] at hnx
      have hc := sign_any s[k] w
      cases hcs : signC s[k] with
      | true =>
        rw [hcs] at hc
        have HC := Lib.hid hc
        have HNX := Lib.hid (hnx.trans hcs)
        clear hc hnx hcs
        go_wp2_with fail
        refine HC.out.mono ?_
        rintro e w1 ⟨rfl, rfl⟩
        go_wp2
        go_roundw
        case rel => exact ⟨k + 1, by omega, by go_num, HNX.out, trivial⟩
        case measure => simp [RowKit.intOf]; omega
      | false =>
        rw [hcs] at hc
        obtain rfl : r = false := by
          have h : (bs s).all signC = false := List.all_eq_false.2 ⟨s[k], List.getElem_mem hkb, by rw [hcs]; decide⟩
          rw [← HR.out, h, Bool.and_false]
        have HC := Lib.hid hc
        clear hc hnx hcs
        go_wp2_with fail
        refine HC.out.mono ?_
        rintro e w1 ⟨rfl, rfl⟩
        go_wp2
        go_ret
        exact ⟨rfl, rfl⟩
    · obtain rfl : k = s.size := by omega
      have hal : (bs s).all signC = true := by
        have := HALL.out
        rwa [List.take_of_length_le (by rw [hl]; exact Nat.le_refl _)] at this
      have hr := HR.out
      rw [hal, Bool.and_true] at hr
      by_cases h1 : 1 ≤ s.size
      · have h1I : (1 : Int) ≤ (s.size : Int) := by omega
        by_cases h3 : s.size ≤ 3
        · have h3I : (s.size : Int) ≤ 3 := by omega
          obtain rfl : r = true := by rw [← hr, decide_eq_true h1, decide_eq_true h3]; rfl
          clear hr h1 h3
          go_wp2
          go_ret
          exact ⟨rfl, rfl⟩
        · have h3I : ¬ (s.size : Int) ≤ 3 := by omega
          obtain rfl : r = false := by rw [← hr, decide_eq_true h1, decide_eq_false h3]; rfl
          clear hr h1 h3
          go_wp2
          go_ret
          exact ⟨rfl, rfl⟩
      · have h1I : ¬ (1 : Int) ≤ (s.size : Int) := by omega
        obtain rfl : r = false := by rw [← hr, decide_eq_false h1]; rfl
        clear hr h1
        go_wp2
        go_ret
        exact ⟨rfl, rfl⟩
section
variable {w : World} {S : Nat → Prop} {g : Nat} {fs : List ByteArray} {L : List Nam}
set_option maxRecDepth 20000 in
set_option maxHeartbeats 1000000 in
theorem rfeats_any (h : RInv w S g fs L) : Calls Tryz.prog 63 #[wptr g] w fun e w' => ∃ v, e = .returned v ∧ w'.ownsRow w.heap.size 9 1 v fs.length (fs.map Value.string) ∧ Below w.heap.size w w' := by
  obtain ⟨i2, hi2, hy0, hy1, hy2⟩ := info_parts (show (Tryz.prog.info? 9).map (fun i => (i.zero, i.size, i.bytes)) = some (some (.string ByteArray.empty), 1, 16) by kernel_rfl)
  have hmd := rmade_any h
  have h24 := h.ok.f24
  obtain ⟨A1, c1, v, ⟨h1, -⟩, ⟨h3, -⟩, -⟩ := h
  have hg1 := (h1.alloc (.cells #[] 9)).cell 1
  simp only [List.getElem?_toArray, List.getElem?_cons_zero, List.getElem?_cons_succ] at hg1
  have hown := own_empty0 w 9 1
  have hr := (Reads.of_own h3).alloc (Nat.le_refl _) (.cells #[] 9)
  have HMD := Lib.hid hmd; have HR := Lib.hid hr; have HOWN := Lib.hid hown
  clear hmd h1 h3 hr hown
  go_enter Tryz.func63, Tryz.ntmps63
  go_wp2_with fail
  refine HMD.out.mono ?_
  rintro e w1 ⟨rfl, rfl⟩
  go_wp2_with (at_builtin; refine wpList_append_any _ rfl _ _ _ rfl w.heap.size 9 i2 (.string ByteArray.empty) 1 16 Tryz.underlying22 hi2 hy0 hy1 hy2 rfl (by decide) _ _ _ rfl HOWN.out w.heap.size _ _ _ (fs.map Value.string) rfl HR.out (strC_one fs) (by unfold maxLen; omega) (by omega) (by simp) ?_; intro v' w1 hown' hgrow hx; have HB1 := Lib.hid (((Below.refl _ w).alloc (Nat.le_refl _) (.cells #[] 9)).grown hgrow (by simp) (fun g hg => (HOWN.out.lt g hg).1)); have HO := Lib.hid hown'; clear hgrow hx hown')
  go_ret
  exact ⟨_, rfl, by simpa using HO.out, HB1.out⟩
set_option maxRecDepth 20000 in
set_option maxHeartbeats 1000000 in
theorem rsounds_any (h : RInv w S g fs L) : Calls Tryz.prog 41 #[wptr g] w fun e w' => ∃ v, e = .returned v ∧ w'.ownsRow w.heap.size 60 3 v L.length (L.flatMap namC) ∧ Below w.heap.size w w' := by
  obtain ⟨i0, hi, hz0, hz1, hz2⟩ := info_parts (show (Tryz.prog.info? 60).map (fun i => (i.zero, i.size, i.bytes)) = some (some (.agg #[.string ByteArray.empty, .int .u32 0, .int .u32 0]), 3, 24) by kernel_rfl)
  have hmd := rmade_any h
  have h256 := h.ok.l256
  obtain ⟨A1, c1, v, ⟨h1, -⟩, -, ⟨h3, -⟩, -⟩ := h
  obtain ⟨A2, c2, rfl, -, -⟩ := ownsRow_form h3
  have hg1 := (h1.alloc (.cells #[] 60)).cell 2
  simp only [List.getElem?_toArray, List.getElem?_cons_zero, List.getElem?_cons_succ] at hg1
  have hown := own_empty0 w 60 3
  have hr := (Reads.of_own h3).alloc (Nat.le_refl _) (.cells #[] 60)
  have HMD := Lib.hid hmd; have HR := Lib.hid hr; have HOWN := Lib.hid hown
  clear hmd h1 h3 hr hown
  go_enter Tryz.func41, Tryz.ntmps41
  go_wp2_with fail
  refine HMD.out.mono ?_
  rintro e w1 ⟨rfl, rfl⟩
  go_wp2_with (at_builtin; refine wpList_append_any _ rfl _ _ _ rfl w.heap.size 60 i0 (.agg #[.string ByteArray.empty, .int .u32 0, .int .u32 0]) 3 24 Tryz.underlying23 hi hz0 hz1 hz2 rfl (by decide) _ _ _ rfl HOWN.out w.heap.size _ _ _ (L.flatMap namC) rfl HR.out (namC_one L) (by unfold maxLen; omega) (by omega) (by simp) ?_; intro v' w1 hown' hgrow hx; have HB1 := Lib.hid (((Below.refl _ w).alloc (Nat.le_refl _) (.cells #[] 60)).grown hgrow (by simp) (fun g hg => (HOWN.out.lt g hg).1)); have HO := Lib.hid hown'; clear hgrow hx hown')
  go_ret
  exact ⟨_, rfl, by simpa using HO.out, HB1.out⟩
set_option maxRecDepth 20000 in
set_option maxHeartbeats 1000000 in
theorem rcopy_any (h : RInv w S g fs L) : Calls Tryz.prog 66 #[wptr g] w fun e w' => ∃ g', e = .returned (wptr g') ∧ RInv w' (NewB w w') g' fs L ∧ Below w.heap.size w w' := by
  have hmd := rmade_any h
  have hf := rfeats_any h
  have hs := fun (w' : World) (hb : Below w.heap.size w w') => rsounds_any (h.below hb)
  have hok := h.ok
  have HMD := Lib.hid hmd; have HF := Lib.hid hf; have HS := Lib.hid hs; have HOK := Lib.hid hok
  clear hmd hf hs hok h
  go_enter Tryz.func66, Tryz.ntmps66
  go_wp2_with fail
  refine HMD.out.mono ?_
  rintro e w1 ⟨rfl, rfl⟩
  go_wp2_with fail
  refine HF.out.mono ?_
  rintro e w1 ⟨v1, rfl, ho1, hb1⟩
  obtain ⟨A1, c1, rfl, -, -⟩ := ownsRow_form ho1
  have hS := HS.out w1 hb1
  have HSS := Lib.hid hS; have HO1 := Lib.hid ho1; have HB1 := Lib.hid hb1
  clear hS ho1 hb1
  go_wp2_with fail
  refine HSS.out.mono ?_
  rintro e w2 ⟨v2, rfl, ho2, hb2⟩
  obtain ⟨A2, c2, rfl, -, -⟩ := ownsRow_form ho2
  have HO2 := Lib.hid ho2; have HB2 := Lib.hid hb2
  have hs1 := HB1.out.size
  have hs2 := hb2.size
  clear ho2 hb2
  go_wp2
  go_ret
  have ho1' := own_below HO1.out HB2.out
  refine ⟨_, rfl, ⟨A1, c1, .slice A2 L.length c2, ⟨Blk.new _ _ _, ⟨by omega, by rw [World.size_alloc]; omega⟩⟩, ⟨own_mono (ho1'.alloc _) (Nat.zero_le _), (fun b hb => by have := ho1'.lt b hb; refine ⟨by omega, ?_⟩; rw [World.size_alloc]; omega)⟩, ⟨own_mono (HO2.out.alloc _) (Nat.zero_le _), (fun b hb => by have := HO2.out.lt b hb; refine ⟨by omega, ?_⟩; rw [World.size_alloc]; omega)⟩, HOK.out⟩, (HB1.out.trans (HB2.out.mono hs1)).trans ((Below.refl _ w2).alloc (by omega) _)⟩
end
end Go.Proofs.YtohggdfplmlinaaGreatDoor
