/-
  CollateLong of layer 39, walked. Conditions: the cell of the library's MaxLen holds some int.
-/
import Derived.Test.YtcdpadggjkobjaaDoorLongP
import Derived.Test.YtcdpadggjkobjaaDoorRepS
import Derived.Test.YtcdpadggjkobjaaDoorLists
import Derived.Laws.IdiomStrings
namespace Go.Proofs.YtcdpadggjkobjaaDoor
open Go.RowKit Go.Lib

theorem let8_cells {i : Nat} (h : i < 2560) : (bl (let8 i)).map (fun b => Value.int .u8 (b.toNat : Int)) = [.int .u8 (97 + (i : Int) % 16), .int .u8 (97 + (i : Int) / 16 % 16), .int .u8 (97 + (i : Int) / 256), .int .u8 120, .int .u8 121, .int .u8 122, .int .u8 45, .int .u8 33] := by
  rw [let8_bl]
  simp only [List.map_cons, List.map_nil]
  rw [u8_nat (by omega), u8_nat (by omega), u8_nat (by omega)]
  rw [show ((97 + i % 16 : Nat) : Int) = 97 + (i : Int) % 16 by omega, show ((97 + i / 16 % 16 : Nat) : Int) = 97 + (i : Int) / 16 % 16 by omega, show ((97 + i / 256 : Nat) : Int) = 97 + (i : Int) / 256 by omega]
  rfl
theorem let8_conv (w : World) (i : Nat) (h : i < 2560) :
    (convert 42 9 (.slice (some ⟨w.heap.size, 0, none⟩) 8 8)).run Tryd.prog (w.alloc (.cells #[Value.int .u8 (97 + (i : Int) % 16), .int .u8 (97 + (i : Int) / 16 % 16), .int .u8 (97 + (i : Int) / 256), .int .u8 120, .int .u8 121, .int .u8 122, .int .u8 45, .int .u8 33] 5)) =
    .ok (.string (let8 i)) (w.alloc (.cells #[Value.int .u8 (97 + (i : Int) % 16), .int .u8 (97 + (i : Int) / 16 % 16), .int .u8 (97 + (i : Int) / 256), .int .u8 120, .int .u8 121, .int .u8 122, .int .u8 45, .int .u8 33] 5)) := by
  refine run_convert_bytes_back (P := Tryd.prog) _ 42 9 5 ⟨w.heap.size, 0, none⟩ 8 (bl (let8 i)) Tryd.underlying42 Tryd.underlying5 Tryd.underlying9 (fun j hj => ?_)
  refine cells_new w [Value.int .u8 (97 + (i : Int) % 16), .int .u8 (97 + (i : Int) / 16 % 16), .int .u8 (97 + (i : Int) / 256), .int .u8 120, .int .u8 121, .int .u8 122, .int .u8 45, .int .u8 33] 5 j _ ?_
  rw [← let8_cells h, List.getElem?_map, List.getElem?_eq_getElem hj]
  rfl
theorem own_at_q {w : World} {base : Nat} {e : TypeId} {v : Value} {n : Nat} {xs : List ByteArray} (h : w.ownsRow base e 1 v n (strs xs)) (h0 : 0 < n) :
    ∃ q c, v = .slice (some ⟨q, 0, none⟩) n c ∧ n ≤ c ∧ c ≤ maxLen ∧ q < w.heap.size ∧ ∀ (j : Nat) x, xs[j]? = some x → w.cell? ⟨q, 0 + j, none⟩ = some (.string x) := by
  obtain ⟨A, c, rfl, h1, h2⟩ := ownsRow_form h
  have hr := Reads.of_own h
  rcases h.2 with ⟨h', hn⟩ | ⟨q, cap, cur, h', _, hg, _⟩
  · omega
  · simp only [Value.slice.injEq, true_and] at h'
    obtain ⟨rfl, rfl⟩ := h'
    refine ⟨q, c, rfl, h1, h2, (Array.getElem?_eq_some_iff.1 hg).1, fun j x hj => ?_⟩
    obtain ⟨ad, had, _, hc⟩ := hr.2 h0
    injection had with had
    subst had
    have := hc j (.string x) (by simp [strs, List.getElem?_map, hj])
    rw [add_at] at this
    rw [Nat.zero_add]; exact this
theorem readI_new (w : World) (cs : List Int) : ReadI (w.alloc (.cells (cs.map (Value.int .i64)).toArray 3)) (w.heap.size + 1) (some ⟨w.heap.size, 0, none⟩) cs.length cs :=
  ⟨by simp, fun _ => ⟨_, rfl, Nat.lt_succ_self _, cells_new w _ _⟩⟩
set_option maxRecDepth 100000 in
set_option maxHeartbeats 4000000 in
theorem long_any (a b : UInt8) (w : World) (hm : MaxOk w) : Calls Tryd.prog 12 #[.int .u8 a.toNat, .int .u8 b.toNat] w (WorksPost w) := by
  have kw := fun W (hb : Below w.heap.size w W) => works_any W (hm.below hb)
  have kn := fun W (hb : Below w.heap.size w W) A c (hr : ReadS W W.heap.size A 1 [xB]) => new_any A 1 c [xB] W (hm.below hb) hr (by omega) (by decide +kernel)
  have KN := Lib.hid kn; have KW := Lib.hid kw; have HM := Lib.hid hm; clear kn kw hm
  have ha : a.toNat < 256 := a.toNat_lt
  have hb : b.toNat < 256 := b.toNat_lt
  generalize a.toNat = x at *
  generalize b.toNat = y at *
  clear a b
  go_enter Tryd.func12, Tryd.ntmps12
  go_wp2_with fail
  refine (KN.out _ (by exact (Below.refl _ _).alloc (Nat.le_refl _) _) _ _ (by exact Reads.more (readS_new w [xB]) (by simp))).mono ?_
  rintro e w1 ⟨_, hok, hb1⟩
  obtain ⟨g, rfl, hA, hG⟩ := hok xErr
  rw [xG_eq] at hA hG
  have hA1 : AlphO w1 (some ⟨g, 0, none⟩) (some xG) := ⟨g, rfl, hA, hG⟩
  have hB1 : Below w.heap.size w w1 := ((Below.refl _ w).alloc (Nat.le_refl _) _).trans (hb1.mono (by simp))
  have HA1 := Lib.hid hA1
  clear hok hA hG hb1 KN hA1
  obtain ⟨k, hk, hk1, hk2⟩ : ∃ k : Int, (x : Int) % 4 - 2 = k ∧ -2 ≤ k ∧ k ≤ 1 := ⟨_, rfl, by omega, by omega⟩
  have HK := Lib.hid hk
  go_wp2_with fail
  · clear HK hk
    obtain ⟨N, hN, hN1, hN2⟩ : ∃ N : Nat, (65536 : Int) + k = N ∧ 65534 ≤ N ∧ N ≤ 65537 := ⟨(65536 + k).toNat, by omega, by omega, by omega⟩
    rw [hN]
    clear hN
    have rp : ∀ W, Calls Tryd.prog 43 #[.string ⟨#[120]⟩, .int .i64 N] W fun e w' => e = .returned (.string (repB 120 N)) ∧ Below W.heap.size W w' := fun W => Tryd.strings_Repeat ⟨#[120]⟩ N W (by omega) (by show 1 * N ≤ _; omega)
    have RP := Lib.hid rp
    clear rp
    refine (RP.out _).mono ?_
    rintro e w2 ⟨rfl, hb2⟩
    have HB2 := Below.go hB1 (Nat.le_refl _) hb2
    have HA2 := Lib.hid (HA1.out.below hb2)
    have ky : ∀ W, AlphO W (some ⟨g, 0, none⟩) (some xG) → Calls Tryd.prog 18 #[.pointer (some ⟨g, 0, none⟩), .string (repB 120 N)] W (KeyPost W (readRes xG (repB 120 N))) := fun W h => keyO_any _ _ _ W h
    have ko : ∀ W, AlphO W (some ⟨g, 0, none⟩) (some xG) → Calls Tryd.prog 22 #[.pointer (some ⟨g, 0, none⟩), .string ⟨#[120]⟩, .string (repB 120 N)] W (OrderPost W (orderRes (readRes xG xB) (readRes xG (repB 120 N)) xB (repB 120 N))) := fun W h => order_any _ _ xB _ W h
    have ks : ∀ W, AlphO W (some ⟨g, 0, none⟩) (some xG) → Calls Tryd.prog 24 #[.pointer (some ⟨g, 0, none⟩), .string (repB 120 N), .string ⟨#[120]⟩] W (SamePost W (sameRes (readRes xG (repB 120 N)) (readRes xG xB))) := fun W h => same_any _ _ _ xB W h
    clear HA1 hB1 hb2
    by_cases hbig : 65536 < N
    · rw [order_long hbig] at ko
      rw [same_long hbig] at ks
      rw [readRes_long hbig] at ky
      have KY := Lib.hid ky; have KO := Lib.hid ko; have KS := Lib.hid ks; clear ky ko ks
      have hbigI : (65536 : Int) < (N : Int) := by omega
      go_wp2_with fail
      refine (KY.out _ HA2.out).mono ?_
      rintro e w3 hp
      obtain ⟨A, n, c, rfl, hr, hn, hb3⟩ := hp.form
      obtain rfl : n = 0 := by have := hr.len; simpa [keyS] using this.symm
      have HB3 := Below.go HB2 (Nat.le_refl _) hb3
      have HA3 := Lib.hid (HA2.out.below hb3)
      clear hp hr KY HA2 HB2 hb3
      go_wp2_with fail
      refine (RP.out _).mono ?_
      rintro e w4 ⟨rfl, hb4⟩
      have HB4 := Below.go HB3 (Nat.le_refl _) hb4
      have HA4 := Lib.hid (HA3.out.below hb4)
      clear HA3 HB3 hb4
      go_wp2_with fail
      refine (KO.out _ HA4.out).mono ?_
      rintro e w5 ⟨rfl, hb5⟩
      have HB5 := Below.go HB4 (Nat.le_refl _) hb5
      have HA5 := Lib.hid (HA4.out.below hb5)
      clear HA4 HB4 hb5 KO
      go_wp2_with fail
      refine (RP.out _).mono ?_
      rintro e w6 ⟨rfl, hb6⟩
      have HB6 := Below.go HB5 (Nat.le_refl _) hb6
      have HA6 := Lib.hid (HA5.out.below hb6)
      clear HA5 HB5 hb6
      go_wp2_with fail
      refine (KS.out _ HA6.out).mono ?_
      rintro e w7 ⟨rfl, hb7⟩
      have HB7 := Below.go HB6 (Nat.le_refl _) hb7
      clear HA6 HB6 hb7 KS
      go_wp2_with fail
      refine (KW.out _ HB7).mono ?_
      rintro e w8 ⟨rfl, hb8⟩
      go_wp2
      go_ret
      exact ⟨rfl, HB7.trans (hb8.mono HB7.size)⟩
    · obtain ⟨v, hv⟩ := order_rep (n := N) (by omega)
      rw [hv] at ko
      rw [readRes_rep (by omega)] at ky
      have KY := Lib.hid ky; have KO := Lib.hid ko; clear ky ko ks hv
      have hbigI : ¬ (65536 : Int) < (N : Int) := by omega
      go_wp2_with fail
      refine (KY.out _ HA2.out).mono ?_
      rintro e w3 hp
      obtain ⟨A, n, c, rfl, hr, hn, hb3⟩ := hp.form
      obtain rfl : N = n := by have := hr.len; simpa [keyS] using this
      have HB3 := Below.go HB2 (Nat.le_refl _) hb3
      have HA3 := Lib.hid (HA2.out.below hb3)
      clear hp hr KY HA2 HB2 hb3
      go_wp2_with fail
      refine (RP.out _).mono ?_
      rintro e w4 ⟨rfl, hb4⟩
      have HB4 := Below.go HB3 (Nat.le_refl _) hb4
      have HA4 := Lib.hid (HA3.out.below hb4)
      clear HA3 HB3 hb4
      go_wp2_with fail
      refine (KO.out _ HA4.out).mono ?_
      rintro e w5 ⟨rfl, hb5⟩
      have HB5 := Below.go HB4 (Nat.le_refl _) hb5
      clear HA4 HB4 hb5 KO
      go_wp2_with fail
      refine (KW.out _ HB5).mono ?_
      rintro e w8 ⟨rfl, hb8⟩
      go_wp2
      go_ret
      exact ⟨rfl, HB5.trans (hb8.mono HB5.size)⟩
  · clear HK hk HA1
    obtain ⟨N, hN, hN1, hN2⟩ : ∃ N : Nat, (256 : Int) + k = N ∧ 254 ≤ N ∧ N ≤ 257 := ⟨(256 + k).toNat, by omega, by omega, by omega⟩
    rw [hN]
    clear hN
    have hsz := hB1.size
    obtain ⟨i0, hi, hz0, hz1, hz2⟩ := info_parts info_string
    generalize hgg : w1.heap.size = G at *
    have HGG := Lib.hid hgg
    clear hgg
    have h0 : ((y : Int) % 4 == 0) = false := by assumption
    have h1 : ((y : Int) % 4 == 1) = true := by assumption
    rw [h0, h1]
    go_loopw [13, 101] (fun v z wr => ∃ i : Nat, i ≤ N ∧ z = .int .i64 i ∧ wr.ownsRow G 9 1 v i (strs (lets i)) ∧ Below G w1 wr) (fun _ z _ => N - (intOf z).toNat)
    case atStart => exact ⟨0, by omega, rfl, World.ownsRow_nil _ _ _ _, Below.refl _ _⟩
    case round =>
      obtain ⟨i, hi', rfl, hown, hb⟩ := hrel
      have hsb : G ≤ wr.heap.size := by have := hb.size; rw [HGG.out] at this; exact this
      by_cases hlt : i < N
      · have hcv := let8_conv wr i (by omega)
        have HLS := Lib.hid (lets_succ i)
        go_wp2_with (at_builtin; refine wpList_append_own _ rfl _ _ 22 rfl G 9 i0 (.string ByteArray.empty) 1 16 Tryd.underlying22 hi hz0 hz1 hz2 rfl (by decide) _ _ _ rfl ((hown.alloc (.cells #[Value.int .u8 (97 + (i : Int) % 16), .int .u8 (97 + (i : Int) / 16 % 16), .int .u8 (97 + (i : Int) / 256), .int .u8 120, .int .u8 121, .int .u8 122, .int .u8 45, .int .u8 33] 5)).alloc (.cells #[.string (let8 i)] 9)) ⟨wr.heap.size + 1, 0, none⟩ 1 1 [.string (let8 i)] rfl rfl (cell_one_in _ _ _ _ (by simp)) (by simp [Value.oneCell']) (by unfold maxLen; omega) (by omega) (by simp; omega) ?_; intro v' w2 hown' hgrow hx; clear hx)
        have hb2 : Below G w1 w2 := ((hb.alloc (by omega) _).alloc (by simp; omega) _).grown hgrow (by simp; omega) (fun g hg => (hown.lt g hg).1)
        clear hgrow hown hb
        go_roundw
        case rel => exact ⟨i + 1, by omega, by go_num, by rw [HLS.out]; simpa using hown', hb2⟩
        case measure => simp [intOf]; omega
      · obtain rfl : i = N := by omega
        obtain ⟨q, c, rfl, hic, hcm, hq, hcs⟩ := own_at_q hown (by omega)
        have hrl : ReadS wr wr.heap.size (some ⟨q, 0, none⟩) i (lets i) := Reads.of_own hown
        have HB : Below w.heap.size w wr := Below.go hB1 (Nat.le_refl _) (by rw [HGG.out]; exact hb)
        have hll := lets_length i
        have hjn := Tryd.strings_Join q 0 c (lets i) ⟨#[32]⟩ wr hcs hq (by omega) (by omega) (by
          have := joinB_size i
          show (joinB i).size ≤ _
          omega)
        have hjn' : Calls Tryd.prog 36 #[.slice (some ⟨q, 0, none⟩) i c, .string ⟨#[32]⟩] wr fun e w' => e = .returned (.string (joinB i)) ∧ Below wr.heap.size wr w' := by rw [hll] at hjn; exact hjn
        have kn1 := fun W (hb : Below w.heap.size w W) A c (hr : ReadS W W.heap.size A 1 [joinB i]) => new_any A 1 c [joinB i] W (HM.out.below hb) hr (by omega) (by have := joinB_size i; simp [totalS]; omega)
        have kn2 := fun W (hb : Below w.heap.size w W) A c (hr : ReadS W W.heap.size A i (lets i)) => new_any A i c (lets i) W (HM.out.below hb) hr (by omega) (by rw [totalS_lets]; omega)
        have KN1 := Lib.hid kn1; have KN2 := Lib.hid kn2
        have e1 := joinB_err (n := i) (by omega) (by omega)
        have e2 := lets_err (n := i) (by omega)
        have HJG := Lib.hid (joinB_groups (n := i) (by omega) (by omega)); have HLG := Lib.hid (lets_groups (n := i) (by omega))
        clear hjn kn1 kn2 hown hcs hb hB1
        have himax : i ≤ maxLen := by omega
        go_wp2_with fail
        refine hjn'.mono ?_
        rintro e w2 ⟨rfl, hb2⟩
        have HB2 := Below.go HB (Nat.le_refl _) hb2
        have hr2 := hrl.go hb2
        clear hjn' hrl HB hb2
        go_wp2_with fail
        refine (KN1.out _ (by exact HB2.alloc HB2.size _) _ _ (by exact Reads.more (readS_new w2 [joinB i]) (by simp))).mono ?_
        rintro e w3 ⟨hbad, hok, hb3⟩
        have HB3 : Below w.heap.size w w3 := Below.go (HB2.alloc HB2.size _) (Nat.le_refl _) hb3
        have hr3 : ReadS w3 w3.heap.size (some ⟨q, 0, none⟩) i (lets i) := ReadS.go (hr2.go ((Below.refl _ _).alloc (Nat.le_refl _) _)) hb3
        clear hb3 hr2 HB2 KN1
        by_cases hbig : 256 < i
        · rw [if_pos hbig] at e1 e2
          obtain rfl := hbad (by rw [e1]; decide)
          rw [e1]
          have hbigI : (256 : Int) < (i : Int) := by omega
          clear hbad hok
          go_wp2_with fail
          refine (KN2.out _ HB3 _ _ hr3).mono ?_
          rintro e w4 ⟨hbad, hok, hb4⟩
          obtain rfl := hbad (by rw [e2]; decide)
          rw [e2]
          have HB4 := Below.go HB3 (Nat.le_refl _) hb4
          clear hbad hok hb4 hr3 HB3 KN2
          go_wp2_with fail
          refine (KW.out _ HB4).mono ?_
          rintro e w8 ⟨rfl, hb8⟩
          go_wp2
          go_ret
          exact ⟨rfl, HB4.trans (hb8.mono HB4.size)⟩
        · rw [if_neg hbig] at e1 e2
          obtain ⟨g2, rfl, hA, hG⟩ := hok e1
          rw [HJG.out] at hA hG
          have HA3 := Lib.hid (show AlphO w3 (some ⟨g2, 0, none⟩) (some [lets i]) from ⟨g2, rfl, hA, hG⟩)
          have hbigI : ¬ (256 : Int) < (i : Int) := by omega
          clear hbad hok hA hG
          go_wp2_with fail
          refine (KN2.out _ HB3 _ _ hr3).mono ?_
          rintro e w4 ⟨hbad, hok, hb4⟩
          obtain ⟨g3, rfl, hA, hG⟩ := hok e2
          rw [HLG.out] at hA hG
          have HA4 := Lib.hid (show AlphO w4 (some ⟨g3, 0, none⟩) (some ((lets i).map fun x => [x])) from ⟨g3, rfl, hA, hG⟩)
          have HA3' := Lib.hid (HA3.out.below hb4)
          have hr4 := hr3.go hb4
          have HB4 := Below.go HB3 (Nat.le_refl _) hb4
          clear hbad hok hb4 hr3 HB3 KN2 hA hG HA3
          go_wp2_with fail
          refine (lettersO_any _ _ w4 HA3'.out (by simp [flatO]; omega)).mono ?_
          rintro e w5 hp
          obtain ⟨A5, n5, c5, rfl, hx, hn5, hb5⟩ := hp.form
          rw [show flatO (some [lets i]) = lets i by simp [flatO]] at hx
          have HB5 := Below.go HB4 (Nat.le_refl _) hb5
          have hr5 := hr4.go hb5
          have HA5 := Lib.hid (HA4.out.below hb5)
          clear hp hb5 hr4 HB4 HA4 HA3'
          go_wp2_with fail
          refine (equalS_refl A5 _ n5 i c5 c _ _ _ _ hx hr5 hn5).mono ?_
          rintro e w6 ⟨rfl, q1, rfl⟩
          have HB6 := below_drewN HB5 q1
          have hr6 := Reads.drewN hr5 q1
          have hA6 := HA5.out.below (below_drewN (Below.refl _ _) q1)
          have hz6 : (w5.drewN q1).heap.size = w5.heap.size := rfl
          rw [← hz6] at hr6
          clear hx hr5 HB5 HA5 hz6
          have HA6 := Lib.hid hA6
          clear hA6
          generalize w5.drewN q1 = w6 at *
          go_wp2_with fail
          refine (lettersO_any _ _ w6 HA6.out (by simp [flatO, flatten_singles]; omega)).mono ?_
          rintro e w7 hp
          obtain ⟨A7, n7, c7, rfl, hx, hn7, hb7⟩ := hp.form
          rw [show flatO (some ((lets i).map fun x => [x])) = lets i from flatten_singles _] at hx
          have HB7 := Below.go HB6 (Nat.le_refl _) hb7
          have hr7 := ReadS.go hr6 hb7
          clear hp hb7 hr6 HB6 HA6
          go_wp2_with fail
          refine (equalS_refl A7 _ n7 i c7 c _ _ _ _ hx hr7 hn7).mono ?_
          rintro e w8 ⟨rfl, q2, rfl⟩
          have HB8 := below_drewN HB7 q2
          go_wp2_with fail
          refine (KW.out _ HB8).mono ?_
          rintro e w9 ⟨rfl, hb9⟩
          go_wp2
          go_ret
          exact ⟨rfl, HB8.trans (hb9.mono HB8.size)⟩
  · clear HK hk HA1
    obtain ⟨N, hN, hN1, hN2⟩ : ∃ N : Nat, (8 : Int) + k = N ∧ 6 ≤ N ∧ N ≤ 9 := ⟨(8 + k).toNat, by omega, by omega, by omega⟩
    rw [hN]
    clear hN
    have rp : ∀ W, Calls Tryd.prog 43 #[.string ⟨#[113]⟩, .int .i64 N] W fun e w' => e = .returned (.string (repB 113 N)) ∧ Below W.heap.size W w' := fun W => Tryd.strings_Repeat ⟨#[113]⟩ N W (by omega) (by show 1 * N ≤ _; omega)
    refine (rp _).mono ?_
    rintro e w2 ⟨rfl, hb2⟩
    have HB2 := Below.go hB1 (Nat.le_refl _) hb2
    have kn := fun W (hb : Below w.heap.size w W) A c (hr : ReadS W W.heap.size A 1 [repB 113 N]) => new_any A 1 c [repB 113 N] W (HM.out.below hb) hr (by omega) (by simp [totalS, repB_size]; omega)
    have KN := Lib.hid kn; clear kn rp hB1 hb2
    have hq := qErr N (by omega) hN1
    go_wp2_with fail
    refine (KN.out _ (by exact HB2.alloc HB2.size _) _ _ (by exact Reads.more (readS_new w2 [repB 113 N]) (by simp))).mono ?_
    rintro e w3 ⟨hbad, hok, hb3⟩
    have HB3 : Below w.heap.size w w3 := Below.go (HB2.alloc HB2.size _) (Nat.le_refl _) hb3
    clear KN HB2 hb3
    by_cases h8 : N ≤ 8
    · rw [if_pos h8] at hq
      obtain ⟨g2, rfl, _, _⟩ := hok hq
      have h8I : (N : Int) ≤ 8 := by omega
      clear hok hbad hq
      go_wp2_with fail
      refine (KW.out _ HB3).mono ?_
      rintro e w8 ⟨rfl, hb8⟩
      go_wp2
      go_ret
      exact ⟨rfl, HB3.trans (hb8.mono HB3.size)⟩
    · rw [if_neg h8] at hq
      obtain rfl := hbad (by rw [hq]; decide)
      rw [hq]
      have h8I : ¬ (N : Int) ≤ 8 := by omega
      clear hok hbad hq
      go_wp2_with fail
      refine (KW.out _ HB3).mono ?_
      rintro e w8 ⟨rfl, hb8⟩
      go_wp2
      go_ret
      exact ⟨by show Ending.returned (.bool !decide ((N : Int) ≤ 8)) = _; rw [decide_eq_false (by omega)]; rfl, HB3.trans (hb8.mono HB3.size)⟩
  · clear HK hk
    obtain ⟨N, hN, hN1, hN2⟩ : ∃ N : Nat, (256 : Int) + k = N ∧ 254 ≤ N ∧ N ≤ 257 := ⟨(256 + k).toNat, by omega, by omega, by omega⟩
    rw [hN]
    clear hN
    refine (repeatS_any _ 1 xB N _ (by exact Reads.more (readS_new w1 [xB]) (by simp)) (by omega) (by omega)).mono ?_
    rintro e w2 hp
    obtain ⟨A, n, c, rfl, hr, hn, hb2⟩ := hp.form
    have HB2 : Below w.heap.size w w2 := Below.go (hB1.alloc hB1.size _) (Nat.le_refl _) hb2
    have HA2 := Lib.hid ((HA1.out.below ((Below.refl _ _).alloc (Nat.le_refl _) _)).below hb2)
    obtain rfl : N = n := by have := hr.len; simpa using this
    have kso : ∀ W, AlphO W (some ⟨g, 0, none⟩) (some xG) → ReadS W W.heap.size A N (xs_ N) → Calls Tryd.prog 37 #[.pointer (some ⟨g, 0, none⟩), .slice A N c] W (TextsPost W (sortedT (sortResO (some xG) (xs_ N)))) := fun W h hr => sort_any _ _ A N c _ W h hr hn
    have khd : ∀ W, AlphO W (some ⟨g, 0, none⟩) (some xG) → ReadS W W.heap.size A N (xs_ N) → Calls Tryd.prog 39 #[.pointer (some ⟨g, 0, none⟩), .slice A N c] W (HeadsPost W (headsResO (some xG) (xs_ N))) := fun W h hr => headsO_any _ _ A N c _ W h hr hn
    clear hp HA1 hB1 hb2
    by_cases hbig : 256 < N
    · rw [sortT_many hbig] at kso
      rw [heads_many hbig] at khd
      have KSO := Lib.hid kso; have KHD := Lib.hid khd; clear kso khd
      have hbigI : (256 : Int) < (N : Int) := by omega
      go_wp2_with fail
      refine (KSO.out _ HA2.out hr).mono ?_
      rintro e w3 hp
      obtain ⟨A3, n3, c3, rfl, hx, _, hb3⟩ := hp.reads
      obtain rfl : n3 = 0 := hx.len.symm
      have HB3 := Below.go HB2 (Nat.le_refl _) hb3
      have HA3 := Lib.hid (HA2.out.below hb3)
      have hr3 := hr.go hb3
      clear hp hx hr HA2 HB2 hb3 KSO
      go_wp2_with fail
      refine (KHD.out _ HA3.out hr3).mono ?_
      rintro e w4 hp
      obtain ⟨A4, n4, c4, B4, m4, d4, rfl, hx, _, hy, _, hb4⟩ := hp.reads
      obtain rfl : n4 = 0 := hx.len.symm
      obtain rfl : m4 = 0 := hy.len.symm
      have HB4 := Below.go HB3 (Nat.le_refl _) hb4
      clear hp hx hy hr3 HA3 HB3 hb4 KHD
      go_wp2_with fail
      refine (KW.out _ HB4).mono ?_
      rintro e w8 ⟨rfl, hb8⟩
      go_wp2
      go_ret
      exact ⟨rfl, HB4.trans (hb8.mono HB4.size)⟩
    · rw [sortT_xs (by omega)] at kso
      rw [heads_xs (by omega) (by omega)] at khd
      have KSO := Lib.hid kso; have KHD := Lib.hid khd; clear kso khd
      have hbigI : ¬ (256 : Int) < (N : Int) := by omega
      go_wp2_with fail
      refine (KSO.out _ HA2.out hr).mono ?_
      rintro e w3 hp
      obtain ⟨A3, n3, c3, rfl, hx, hn3, hb3⟩ := hp.reads
      have HB3 := Below.go HB2 (Nat.le_refl _) hb3
      have HA3 := Lib.hid (HA2.out.below hb3)
      have hr3 := hr.go hb3
      clear hp hr HA2 HB2 hb3 KSO
      go_wp2_with fail
      refine (KHD.out _ HA3.out hr3).mono ?_
      rintro e w4 hp
      obtain ⟨A4, n4, c4, B4, m4, d4, rfl, hu, hn4, hv, hm4, hb4⟩ := hp.reads
      have HB4 := Below.go HB3 (Nat.le_refl _) hb4
      have hx4 := hx.go hb4; have hr4 := hr3.go hb4
      clear hp hx hr3 HA3 HB3 hb4 KHD
      go_wp2_with fail
      refine (equalS_refl A3 A n3 N c3 c _ _ _ _ hx4 hr4 hn3).mono ?_
      rintro e w5 ⟨rfl, q1, rfl⟩
      have HB5 := below_drewN HB4 q1
      have hu5 := Reads.drewN hu q1; have hv5 := Reads.drewN hv q1
      have hz5 : (w4.drewN q1).heap.size = w4.heap.size := rfl
      clear hx4 hr4 HB4 hu hv
      generalize w4.drewN q1 = w5 at *
      go_wp2_with fail
      refine (equalS_refl A4 _ n4 1 c4 1 [xB] _ _ _ (by exact Reads.alloc hu5 (by omega) _) (by have := readS_new w5 [xB]; rw [hz5] at this; exact this) hn4).mono ?_
      rintro e w6 ⟨rfl, q2, rfl⟩
      have HB6 : Below w.heap.size w _ := below_drewN (HB5.alloc HB5.size (.cells #[.string ⟨#[120]⟩] 9)) q2
      have hv6 := Reads.drewN (Reads.alloc hv5 (by omega) (.cells #[.string ⟨#[120]⟩] 9)) q2
      clear hu5 hv5 HB5
      generalize hw6 : (w5.alloc (.cells #[.string ⟨#[120]⟩] 9)).drewN q2 = w6 at *
      have hz6 : w6.heap.size = w5.heap.size + 1 := by rw [← hw6]; exact World.size_alloc _ _
      clear hw6
      go_wp2_with fail
      refine (equalI_refl B4 _ m4 1 d4 1 [(N : Int)] _ _ _ (by exact Reads.alloc hv6 (by omega) _) (by have := readI_new w6 [(N : Int)]; rw [hz6, hz5] at this; exact this) hm4).mono ?_
      rintro e w7 ⟨rfl, q3, rfl⟩
      have HB7 : Below w.heap.size w _ := below_drewN (HB6.alloc HB6.size (.cells #[.int .i64 (N : Int)] 3)) q3
      go_wp2_with fail
      refine (KW.out _ HB7).mono ?_
      rintro e w8 ⟨rfl, hb8⟩
      go_wp2
      go_ret
      exact ⟨rfl, HB7.trans (hb8.mono HB7.size)⟩
end Go.Proofs.YtcdpadggjkobjaaDoor
