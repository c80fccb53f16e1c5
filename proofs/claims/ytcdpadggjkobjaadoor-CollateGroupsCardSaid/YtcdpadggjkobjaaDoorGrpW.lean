/-
  CollateGroups of layer 39, walked. Conditions: the cell of the library's MaxLen holds some int; arguments of the reach.
-/
import Derived.Test.YtcdpadggjkobjaaDoorGrpP
import Derived.Test.YtcdpadggjkobjaaDoorBytesK
import Derived.Test.YtcdpadggjkobjaaDoorLists
namespace Go.Proofs.YtcdpadggjkobjaaDoor
open Go.RowKit Go.Lib

theorem shr_bit (v k C : Nat) (hv : v < 18446744073709551616) (h1 : 97 ≤ C) (h2 : C ≤ 122) : ∃ q : Nat, (q = 0 ∨ q = 1) ∧ ((C : Int) - 32 * (bits BinOp.and IntKind.u64 ((v : Int) / 2 ^ k) 1 % 256)) % 256 = ((C - 32 * q : Nat) : Int) := by
  have e : (v : Int) / 2 ^ k = ((v / 2 ^ k : Nat) : Int) := by rw [Int.natCast_ediv, Int.natCast_pow]; rfl
  have hz : v / 2 ^ k < 18446744073709551616 := Nat.lt_of_le_of_lt (Nat.div_le_self _ _) hv
  rw [e]
  generalize v / 2 ^ k = z at hz
  have h := (bits_nat .u64 64 (by decide) (fun n h0 h1 => by rw [IntKind.wrap_u64]; omega) z 1 (by omega) (by decide)).1
  rw [Nat.and_one_is_mod] at h
  have h' : bits BinOp.and IntKind.u64 (z : Int) 1 = ((z % 2 : Nat) : Int) := h
  rw [h']
  refine ⟨z % 2, by omega, by omega⟩
def Apart (u u' : Value) : Prop := ∀ q, u.ownBlock = some q → u'.ownBlock ≠ some q
theorem Apart.kept {u u' : Value} (h : Apart u u') : u'.ownBlock = none ∨ u'.ownBlock ≠ u.ownBlock := by
  cases e : u'.ownBlock with
  | none => exact .inl rfl
  | some q => exact .inr fun e' => h q e'.symm e
theorem Apart.symm {u u' : Value} (h : Apart u u') : Apart u' u := fun q h1 h2 => h q h2 h1
theorem own_pos {w : World} {base : Nat} {e : TypeId} {v : Value} {n : Nat} {xs : List Value} (h : w.ownsRow base e 1 v n xs) (h0 : 0 < n) :
    ∃ q c, v = .slice (some ⟨q, 0, none⟩) n c ∧ n ≤ c ∧ c ≤ maxLen ∧ base ≤ q ∧ q < w.heap.size ∧ (∀ (j : Nat) x, xs[j]? = some x → w.cell? ⟨q, j, none⟩ = some x) ∧ ∀ j, w.frozen? ⟨q, j, none⟩ = false := by
  obtain ⟨A, c, rfl, h1, h2⟩ := ownsRow_form h
  have hr := Reads.of_own h
  rcases h.2 with ⟨h', hn⟩ | ⟨q, cap, cur, h', hb, hg, _⟩
  · omega
  · simp only [Value.slice.injEq, true_and] at h'
    obtain ⟨rfl, rfl⟩ := h'
    refine ⟨q, c, rfl, h1, h2, hb, (Array.getElem?_eq_some_iff.1 hg).1, fun j x hj => ?_, fun j => Blk.frozen hg j⟩
    obtain ⟨ad, had, _, hc⟩ := hr.2 h0
    injection had with had
    subst had
    have := hc j x hj
    rwa [add_at] at this
theorem grp_conv (w : World) (j : Nat) (h : 97 ≤ j) (h' : j ≤ 122) :
    (convert 42 9 (.slice (some ⟨w.heap.size, 0, none⟩) 3 3)).run Tryd.prog (w.alloc (.cells #[Value.int .u8 (j : Int), .int .u8 32, .int .u8 ((j : Int) - 32)] 5)) =
    .ok (.string (grp (j - 97))) (w.alloc (.cells #[Value.int .u8 (j : Int), .int .u8 32, .int .u8 ((j : Int) - 32)] 5)) := by
  refine run_convert_bytes_back (P := Tryd.prog) _ 42 9 5 ⟨w.heap.size, 0, none⟩ 3 [UInt8.ofNat (97 + (j - 97)), 32, UInt8.ofNat (65 + (j - 97))] Tryd.underlying42 Tryd.underlying5 Tryd.underlying9 (fun i hi => ?_)
  refine cells_new w [Value.int .u8 (j : Int), .int .u8 32, .int .u8 ((j : Int) - 32)] 5 i _ ?_
  have e1 : (UInt8.ofNat (97 + (j - 97))).toNat = j := by rw [UInt8.toNat_ofNat', Nat.mod_eq_of_lt (by omega)]; omega
  have e2 : (UInt8.ofNat (65 + (j - 97))).toNat = j - 32 := by rw [UInt8.toNat_ofNat', Nat.mod_eq_of_lt (by omega)]; omega
  match i, hi with
  | 0, _ => simp only [List.getElem?_cons_zero, List.getElem_cons_zero]; rw [e1]
  | 1, _ => rfl
  | 2, _ =>
    simp only [List.getElem?_cons_succ, List.getElem?_cons_zero, List.getElem_cons_succ, List.getElem_cons_zero]; rw [e2]
    rw [show ((j - 32 : Nat) : Int) = (j : Int) - 32 by omega]
set_option maxRecDepth 100000 in
set_option maxHeartbeats 4000000 in
theorem groups_any (B : Option Addr) (nb cb : Nat) (xs : List UInt8) (v : Nat) (hv : v < 18446744073709551616) (w : World) (hm : MaxOk w) (hrb : ReadB w w.heap.size B nb xs) (hncb : nb ≤ cb) (_hcb : cb ≤ maxLen) :
    Calls Tryd.prog 5 #[.slice B nb cb, .int .u64 v] w (WorksPost w) := by
  have kw := fun W (hb : Below w.heap.size w W) => works_any W (hm.below hb)
  have kn := fun W (hb : Below w.heap.size w W) A c (hr : ReadS W W.heap.size A 26 (alphaL 26)) => new_any A 26 c (alphaL 26) W (hm.below hb) hr (by omega) (by rw [aTotal]; omega)
  obtain ⟨i0, hi, hz0, hz1, hz2⟩ := info_parts info_string
  obtain ⟨i1, hi1, hy0, hy1, hy2⟩ := info_parts (show (Tryd.prog.info? 5).map (fun i => (i.zero, i.size, i.bytes)) = some (some (.int .u8 0), 1, 1) by kernel_rfl)
  have HRB := Lib.hid hrb
  have HL := Lib.hid hrb.len
  have KN := Lib.hid kn; have KW := Lib.hid kw
  clear kw kn hm hrb
  go_enter Tryd.func5, Tryd.ntmps5
  go_wp2
  go_loopw [5, 6] (fun u z wr => ∃ j : Nat, 97 ≤ j ∧ j ≤ 123 ∧ z = .int .u8 j ∧ wr.ownsRow w.heap.size 9 1 u (j - 97) (strs (alphaL (j - 97))) ∧ Below w.heap.size w wr) (fun _ z _ => 123 - (intOf z).toNat)
  case atStart => exact ⟨97, by omega, by omega, rfl, World.ownsRow_nil _ _ _ _, Below.refl _ _⟩
  case round =>
    obtain ⟨j, hj1, hj2, rfl, hown, hb⟩ := hrel
    have hsb := hb.size
    by_cases hlt : j ≤ 122
    · have hcv := grp_conv wr j hj1 hlt
      have HAS := Lib.hid (show alphaL (j + 1 - 97) = alphaL (j - 97) ++ [grp (j - 97)] by rw [← alphaL_succ]; congr 1; omega)
      go_wp2_with (at_builtin; refine wpList_append_own _ rfl _ _ 22 rfl w.heap.size 9 i0 (.string ByteArray.empty) 1 16 Tryd.underlying22 hi hz0 hz1 hz2 rfl (by decide) _ _ _ rfl ((hown.alloc (.cells #[Value.int .u8 (j : Int), .int .u8 32, .int .u8 ((j : Int) - 32)] 5)).alloc (.cells #[.string (grp (j - 97))] 9)) ⟨wr.heap.size + 1, 0, none⟩ 1 1 [.string (grp (j - 97))] rfl rfl (cell_one_in _ _ _ _ (by simp)) (by simp [Value.oneCell']) (by unfold maxLen; omega) (by omega) (by simp; omega) ?_; intro v' w2 hown' hgrow hx; clear hx)
      have hb2 : Below w.heap.size w w2 := ((hb.alloc hsb _).alloc (by simp; omega) _).grown hgrow (by simp; omega) (fun g hg => (hown.lt g hg).1)
      clear hgrow hown hb hcv
      go_roundw
      case rel => exact ⟨j + 1, by omega, by omega, by go_num, by rw [HAS.out, show j + 1 - 97 = j - 97 + 1 by omega]; simpa using hown', hb2⟩
      case measure => simp [intOf]; omega
    · obtain rfl : j = 123 := by omega
      obtain ⟨A, c, rfl, hc1, hc2⟩ := ownsRow_form hown
      have hrl : ReadS wr wr.heap.size A 26 (alphaL 26) := Reads.of_own hown
      clear hown
      go_wp2_with fail
      refine (KN.out _ hb _ _ hrl).mono ?_
      rintro e w1 ⟨_, hok, hb1⟩
      obtain ⟨g, rfl, hA, hG⟩ := hok aErr
      have hA1 : AlphO w1 (some ⟨g, 0, none⟩) (some aG) := ⟨g, rfl, hA, hG⟩
      have HB1 := Below.go hb (Nat.le_refl _) hb1
      have HA1 := Lib.hid hA1
      clear hok hA hG hb1 KN hA1 hrl hb hsb hc1 hc2
      have hr1 := Reads.below HRB.out HB1
      have HR1 := Lib.hid hr1
      clear hr1
      obtain ⟨m, hmn, hm60, hmin⟩ : ∃ m : Nat, m ≤ nb ∧ m ≤ 60 ∧ (min (nb : Int) 60) = m := ⟨min nb 60, by omega, by omega, by omega⟩
      have hmax : max (m : Int) 0 = m := by omega
      have hs1 := HB1.size
      go_wp2
      clear hmin hmax
      go_loopw [9, 10, 48] (fun u u' z wr => ∃ (k : Nat) (cs ts : List UInt8), k ≤ m ∧ z = .int .i64 k ∧ cs.length = k ∧ wr.ownsRow w1.heap.size 5 1 u k (bytesV cs) ∧ wr.ownsRow w1.heap.size 5 1 u' k (bytesV ts) ∧ Apart u u' ∧ GrpSt cs ts ∧ Below w1.heap.size w1 wr) (fun _ _ z _ => m - (intOf z).toNat)
      case atStart => exact ⟨0, [], [], by omega, rfl, rfl, World.ownsRow_nil _ _ _ _, World.ownsRow_nil _ _ _ _, (fun q h => by cases h), GrpSt.nil_, Below.refl _ _⟩
      case round =>
        obtain ⟨k, cs, ts, hk, rfl, hck, ho1, ho2, hne, hst, hb⟩ := hrel
        have hsb := hb.size
        by_cases hlt : k < m
        · have hkl : k < xs.length := by rw [HL.out]; omega
          obtain ⟨ad, rfl, had, hcx⟩ := ReadB.at_ (k := k) (Reads.below HR1.out (hb.mono hs1)) hkl
          have hx255 := xs[k].toNat_lt
          generalize xs[k].toNat = x at hcx hx255
          obtain ⟨C, hC, hC1, hC2⟩ : ∃ C : Nat, (97 : Int) + (x : Int) % 26 = C ∧ 97 ≤ C ∧ C ≤ 122 := ⟨97 + x % 26, by omega, by omega, by omega⟩
          obtain ⟨q, hq, hD⟩ : ∃ q : Nat, (q = 0 ∨ q = 1) ∧ ((C : Int) - 32 * (bits BinOp.and IntKind.u64 ((v : Int) / 2 ^ k) 1 % 256)) % 256 = ((C - 32 * q : Nat) : Int) := shr_bit v k C hv hC1 hC2
          have hst' := hst.push (c := C) (q := q) ⟨hC1, hC2⟩ hq
          have HST := Lib.hid hst'
          generalize hDD : C - 32 * q = D at *
          have hCb : (UInt8.ofNat C).toNat = C := by rw [UInt8.toNat_ofNat', Nat.mod_eq_of_lt (by omega)]
          have hDb : (UInt8.ofNat D).toNat = D := by rw [UInt8.toNat_ofNat', Nat.mod_eq_of_lt (by omega)]
          have HCB := Lib.hid hCb; have HDB := Lib.hid hDb
          clear hst hst' hCb hDb hDD
          go_wp2_with (first
            | (at_builtin; refine wpList_append_any _ rfl (.tmp 56) _ 42 rfl w1.heap.size 5 i1 (.int .u8 0) 1 1 Tryd.underlying42 hi1 hy0 hy1 hy2 rfl (by decide) _ _ _ rfl (ho1.alloc _) _ _ _ _ [.int .u8 C] rfl (reads_new wr 5 [.int .u8 C]) (by simp [Value.oneCell']) (by unfold maxLen; simp; omega) (by simp; omega) (by simp; omega) ?_; intro v' w2 hown' hgrow hx; have hgrow' : (wr.alloc (.cells #[.int .u8 C] 5)).grownBy w2 u9.ownBlock := hgrow; have hx' : v'.ownBlock = u9.ownBlock ∨ v'.ownBlock = some (wr.heap.size + 1) := by { have := hx; rw [World.size_alloc] at this; exact this }; have ho2' := (ho2.alloc (.cells #[.int .u8 C] 5)).kept hgrow' hne.kept; have hb2 : Below w1.heap.size w1 w2 := (hb.alloc hsb _).grown hgrow' (by simp; omega) (fun g hg => (ho1.lt g hg).1); have hs2 : wr.heap.size + 1 ≤ w2.heap.size := by { have := hgrow'.size; rw [World.size_alloc] at this; exact this }; have HX := Lib.hid hx'; clear hgrow hx hgrow' hx')
            | (at_builtin; refine wpList_append_any _ rfl (.tmp 60) _ 42 rfl w1.heap.size 5 i1 (.int .u8 0) 1 1 Tryd.underlying42 hi1 hy0 hy1 hy2 rfl (by decide) _ _ _ rfl (ho2'.alloc _) _ _ _ _ [.int .u8 D] rfl (reads_new w2 5 [.int .u8 D]) (by simp [Value.oneCell']) (by unfold maxLen; simp; omega) (by simp; omega) (by simp; omega) ?_; intro v'' w3 hown'' hgrow hx; have hgrow' : (w2.alloc (.cells #[.int .u8 D] 5)).grownBy w3 u10.ownBlock := hgrow; have hx' : v''.ownBlock = u10.ownBlock ∨ v''.ownBlock = some (w2.heap.size + 1) := by { have := hx; rw [World.size_alloc] at this; exact this }; have HX2 := Lib.hid hx'; have HG2 := Lib.hid hgrow'; clear hgrow hx hgrow' hx'))
          have hap : Apart v' u10 := fun q h1 h2 => by
            rcases HX.out with h | h
            · exact hne q (by rw [← h]; exact h1) h2
            · have := (ho2.lt q h2).2
              rw [h] at h1; injection h1 with h1; omega
          have hap2 : Apart v' v'' := fun q h1 h2 => by
            rcases HX2.out with h | h
            · exact hap q h1 (by rw [← h]; exact h2)
            · have := (hown'.lt q h1).2
              rw [h] at h2; injection h2 with h2; omega
          have hown3 := (hown'.alloc (.cells #[.int .u8 D] 5)).kept HG2.out hap.symm.kept
          have hb3 : Below w1.heap.size w1 w3 := (hb2.alloc (by omega) _).grown HG2.out (by simp; omega) (fun g hg => (ho2.lt g hg).1)
          clear hap hne hown' ho2 ho1 ho2' hb hb2
          go_roundw
          case rel =>
            refine ⟨k + 1, cs ++ [UInt8.ofNat C], ts ++ [UInt8.ofNat D], by omega, by go_num, by simp; omega, ?_, ?_, hap2, HST.out, hb3⟩
            · simpa [bytesV, HCB.out] using hown3
            · simpa [bytesV, HDB.out] using hown''
          case measure => simp [intOf]; omega
        · obtain rfl : k = m := by omega
          clear hlt HR1 HRB HL hmn
          obtain ⟨A9, c9, rfl, h91, h92⟩ := ownsRow_form ho1
          obtain ⟨A10, c10, rfl, h101, h102⟩ := ownsRow_form ho2
          have HB0 := Below.go HB1 (Nat.le_refl _) hb
          have HA0 := Lib.hid (HA1.out.below hb)
          have hcl : cs.length ≤ 65536 := by omega
          have htl : ts.length ≤ 65536 := by rw [hst.len]; omega
          have ky1 : ∀ W, AlphO W (some ⟨g, 0, none⟩) (some aG) → Calls Tryd.prog 18 #[.pointer (some ⟨g, 0, none⟩), .string (mkB cs)] W (KeyPost W (0, cs.map letE)) := fun W h => readRes_let hst.letc hcl ▸ keyO_any _ _ _ W h
          have ky2 : ∀ W, AlphO W (some ⟨g, 0, none⟩) (some aG) → Calls Tryd.prog 18 #[.pointer (some ⟨g, 0, none⟩), .string (mkB ts)] W (KeyPost W (0, ts.map letE)) := fun W h => readRes_let hst.let_ htl ▸ keyO_any _ _ _ W h
          have ko : ∀ W, AlphO W (some ⟨g, 0, none⟩) (some aG) → Calls Tryd.prog 22 #[.pointer (some ⟨g, 0, none⟩), .string (mkB cs), .string (mkB ts)] W (OrderPost W (Lib.compareBytes (bl (mkB cs)) (bl (mkB ts)), 0)) := fun W h => by
            have := order_any (some ⟨g, 0, none⟩) (some aG) (mkB cs) (mkB ts) W h
            rw [show orderRes (readResO (some aG) (mkB cs)) (readResO (some aG) (mkB ts)) (mkB cs) (mkB ts) = _ from order_let hst.letc hst.let_ hcl htl, hst.key, beforeV_same] at this
            exact this
          have ks : ∀ W, AlphO W (some ⟨g, 0, none⟩) (some aG) → Calls Tryd.prog 24 #[.pointer (some ⟨g, 0, none⟩), .string (mkB cs), .string (mkB ts)] W (SamePost W true) := fun W h => by
            have := same_any (some ⟨g, 0, none⟩) (some aG) (mkB cs) (mkB ts) W h
            rw [show sameRes (readResO (some aG) (mkB cs)) (readResO (some aG) (mkB ts)) = _ from same_let hst.letc hst.let_ hcl htl, hst.key, decide_eq_true rfl] at this
            exact this
          have hv1 : (convert 42 9 (.slice A9 k c9)).run Tryd.prog wr = .ok (.string (mkB cs)) wr := own_conv ho1
          have KY1 := Lib.hid ky1; have KY2 := Lib.hid ky2; have KO := Lib.hid ko; have KS := Lib.hid ks; have HST := Lib.hid hst; have HCK := Lib.hid hck
          have HO1 := Lib.hid ho1; have HO2 := Lib.hid ho2
          clear ky1 ky2 ko ks hst hck hcl htl hne HB1 HA1 hsb hb ho1 ho2
          go_wp2_with fail
          refine (KY1.out _ HA0.out).mono ?_
          rintro e w3 hp
          obtain ⟨A14, n14, c14, rfl, hr14, hn14, hb3⟩ := hp.form
          obtain rfl : k = n14 := by have := hr14.len; rw [keyS_let] at this; simpa [keyL, HCK.out] using this
          have HB3 := Below.go HB0 (Nat.le_refl _) hb3
          have HA3 := Lib.hid (HA0.out.below hb3)
          have HO13 := Lib.hid (own_below HO1.out hb3); have HO23 := Lib.hid (own_below HO2.out hb3)
          have hv2 : (convert 42 9 (.slice A10 k c10)).run Tryd.prog w3 = .ok (.string (mkB ts)) w3 := own_conv HO23.out
          clear hp HO1 HO2 hb3 HB0 HA0 KY1 hv1
          go_wp2_with fail
          refine (KY2.out _ HA3.out).mono ?_
          rintro e w4 hp
          obtain ⟨A16, n16, c16, rfl, hr16, hn16, hb4⟩ := hp.form
          have HB4 := Below.go HB3 (Nat.le_refl _) hb4
          have HA4 := Lib.hid (HA3.out.below hb4)
          have HO14 := Lib.hid (own_below HO13.out hb4); have HO24 := Lib.hid (own_below HO23.out hb4)
          have hr14' := ReadI.go hr14 hb4
          have hv1 : (convert 42 9 (.slice A9 k c9)).run Tryd.prog w4 = .ok (.string (mkB cs)) w4 := own_conv HO14.out
          have hv2 : (convert 42 9 (.slice A10 k c10)).run Tryd.prog w4 = .ok (.string (mkB ts)) w4 := own_conv HO24.out
          clear hp HO13 HO23 hb4 HB3 HA3 KY2 hr14
          go_wp2_with fail
          refine (KO.out _ HA4.out).mono ?_
          rintro e w5 ⟨rfl, hb5⟩
          have HB5 := Below.go HB4 (Nat.le_refl _) hb5
          have HA5 := Lib.hid (HA4.out.below hb5)
          have HO15 := Lib.hid (own_below HO14.out hb5); have HO25 := Lib.hid (own_below HO24.out hb5)
          have hr14 := ReadI.go hr14' hb5
          have hr16' := ReadI.go hr16 hb5
          clear HO14 HO24 hb5 HB4 HA4 KO hr14' hr16 hv1 hv2
          rw [keyS_let] at hr14
          rw [keyS_let, HST.out.key] at hr16'
          go_wp2_with fail
          refine (equalI_refl A14 A16 k n16 c14 c16 _ _ _ _ hr14 hr16' hn14).mono ?_
          rintro e w6 ⟨rfl, q1, rfl⟩
          have HB6 := below_drewN HB5 q1
          have hr6 : ReadI (w5.drewN q1) (w5.drewN q1).heap.size A14 k (keyL cs) := Reads.drewN hr14 q1
          have HA6 := Lib.hid (HA5.out.below (below_drewN (Below.refl _ _) q1))
          have HO16 := Lib.hid (own_below HO15.out (below_drewN (Below.refl _ _) q1)); have HO26 := Lib.hid (own_below HO25.out (below_drewN (Below.refl _ _) q1))
          clear hr14 hr16' HB5 HA5 HO15 HO25
          generalize w5.drewN q1 = w6 at *
          have hv1 : (convert 42 9 (.slice A9 k c9)).run Tryd.prog w6 = .ok (.string (mkB cs)) w6 := own_conv HO16.out
          have hv2 : (convert 42 9 (.slice A10 k c10)).run Tryd.prog w6 = .ok (.string (mkB ts)) w6 := own_conv HO26.out
          go_wp2_with fail
          refine (Tryd.strings_Compare (mkB cs) (mkB ts) _).mono ?_
          rintro e w7 ⟨rfl, rfl⟩
          go_wp2_with fail
          refine (KS.out _ HA6.out).mono ?_
          rintro e w8 ⟨rfl, hb8⟩
          have HB8 := Below.go HB6 (Nat.le_refl _) hb8
          have HA8 := Lib.hid (HA6.out.below hb8)
          have HO18 := Lib.hid (own_below HO16.out hb8); have HO28 := Lib.hid (own_below HO26.out hb8)
          have hr8 := ReadI.go hr6 hb8
          clear HB6 HA6 HO16 HO26 hr6 hb8 KS hv1 hv2
          go_wp2
          go_loopw [138] (fun z W => ∃ i : Nat, i ≤ k ∧ z = .int .i64 i ∧ W = w8) (fun z _ => k - (intOf z).toNat)
          case atStart => exact ⟨0, by omega, rfl, rfl⟩
          case round =>
            obtain ⟨i, hi', rfl, rfl⟩ := hrel
            by_cases hlt : i < k
            · have hil : i < cs.length := by rw [HCK.out]; exact hlt
              have hsm := HST.out.small _ (List.getElem_mem hil)
              obtain ⟨ad, rfl, had, hcx⟩ := ReadB.at_ (k := i) (Reads.of_own HO18.out) hil
              obtain ⟨ad2, rfl, had2, hcy⟩ := ReadI.at_ (k := i) hr8 (by simpa [keyL] using hil)
              have hkey : (keyL cs)[i]'(by simpa [keyL] using hil) = ((cs[i].toNat : Int) - 97) := by
                simp only [keyL, List.getElem_map]
                unfold plc
                rw [if_pos hsm.1]; omega
              rw [hkey] at hcy
              generalize cs[i].toNat = x at hsm hcx hcy
              clear hkey
              obtain ⟨hx1, hx2⟩ := hsm
              go_wp2
              go_roundw
              case rel => exact ⟨i + 1, by omega, by go_num, by trivial⟩
              case measure => simp [intOf]; omega
            · obtain rfl : i = k := by omega
              clear hlt hk hi'
              rcases Nat.eq_zero_or_pos i with h0 | h0
              · subst h0
                go_wp2_with fail
                refine (KW.out _ HB8).mono ?_
                rintro e w9 ⟨rfl, hb9⟩
                go_wp2
                go_ret
                exact ⟨rfl, HB8.trans (hb9.mono HB8.size)⟩
              · obtain ⟨p, rfl⟩ : ∃ p, i = p + 1 := ⟨i - 1, by omega⟩
                have hcl := cloneB_any A9 (p + 1) c9 cs wr wr.heap.size (Reads.of_own HO18.out) (Nat.le_refl _) (by omega)
                have hpl : p < cs.length := by rw [HCK.out]; omega
                have hsm := HST.out.small _ (List.getElem_mem hpl)
                have hother := fun c hc hc' => other_facts HST.out (by rw [HCK.out]; omega) HCK.out c hc hc'
                obtain ⟨y, hy⟩ : ∃ y, cs[p].toNat = y := ⟨_, rfl⟩
                have hcy : cs[p] = UInt8.ofNat y := by rw [← hy, UInt8.ofNat_toNat]
                rw [hy] at hsm
                obtain ⟨hO1, hO2, hO3⟩ := hother y hcy hsm
                obtain ⟨hy1, hy2⟩ := hsm
                obtain ⟨X, hX, hXn⟩ : ∃ X : Nat, (97 : Int) + ((y : Int) - 97 + 1) % 26 = X ∧ X = nextL y := ⟨nextL y, by unfold nextL; omega, rfl⟩
                have hnb : (UInt8.ofNat X).toNat = X := by rw [UInt8.toNat_ofNat', hXn, Nat.mod_eq_of_lt (by unfold nextL; omega)]
                rw [← hXn] at hO1 hO2 hO3
                clear hXn
                have HO1 := Lib.hid hO1; have HO2 := Lib.hid hO2; have HO3 := Lib.hid hO3; have HCY := Lib.hid hy
                clear hother hO1 hO2 hO3 hy hcy hr8
                go_wp2_with fail
                refine hcl.mono ?_
                rintro e w9 ⟨vo, rfl, hov, hb9⟩
                obtain ⟨qo, co, rfl, ho1, ho2, hqb, hql, hcz, hfz⟩ := own_pos hov (by omega)
                have hN9 : (Value.slice A9 (p + 1) c9).ownBlock ≠ some qo := fun e => by have := (HO18.out.lt qo e).2; omega
                have hN10 : (Value.slice A10 (p + 1) c10).ownBlock ≠ some qo := fun e => by have := (HO28.out.lt qo e).2; omega
                have hco := hcz p (Value.int .u8 y) (by simp [bytesV, List.getElem?_eq_getElem hpl, HCY.out])
                have hfo := hfz p
                have HO19 := Lib.hid (own_below HO18.out hb9); have HO29 := Lib.hid (own_below HO28.out hb9)
                obtain ⟨ad9, had9e, had9, hc9⟩ := ReadB.at_ (k := p) (Reads.of_own HO19.out) hpl
                rw [HCY.out] at hc9
                obtain rfl := had9e
                have hbs := hb9.setCell (p := ⟨qo, p, none⟩) hqb (.int .u8 X)
                have HB10 := Lib.hid (Below.go HB8 (Nat.le_refl _) hbs)
                have HA10 := Lib.hid (HA8.out.below hbs)
                have hr10 := ownsRow_setCell_other HO29.out (a := ⟨qo, p, none⟩) hN10 (.int .u8 X)
                have hr9 := ownsRow_setCell_other HO19.out (a := ⟨qo, p, none⟩) hN9 (.int .u8 X)
                have hro := own_set hov (k := p) (.int .u8 X)
                rw [show (bytesV cs).set p (.int .u8 X) = bytesV (cs.set p (UInt8.ofNat X)) by simp only [bytesV, List.map_set, hnb]] at hro
                generalize hcs' : cs.set p (UInt8.ofNat X) = os at hro HO1 HO2 HO3
                clear hcs' hcz hfz hov HO18 HO28 HB8 HA8 hb9 hcl hN9 hN10 hbs HO19 HO29 hnb
                have hw10 : ∃ w10, w9.setCell ⟨qo, p, none⟩ (.int .u8 X) = w10 := ⟨_, rfl⟩
                have hv2 : (convert 42 9 (.slice A10 (p + 1) c10)).run Tryd.prog (w9.setCell ⟨qo, p, none⟩ (.int .u8 X)) = .ok (.string (mkB ts)) (w9.setCell ⟨qo, p, none⟩ (.int .u8 X)) := own_conv hr10
                have hv3 : (convert 42 9 (.slice (some ⟨qo, 0, none⟩) (p + 1) co)).run Tryd.prog (w9.setCell ⟨qo, p, none⟩ (.int .u8 X)) = .ok (.string (mkB os)) (w9.setCell ⟨qo, p, none⟩ (.int .u8 X)) := own_conv hro
                have HR9 := Lib.hid hr9; have HR10 := Lib.hid hr10; have HRO := Lib.hid hro
                clear hr9 hr10 hro hw10
                go_wp2_with fail
                generalize w9.setCell ⟨qo, p, none⟩ (.int .u8 X) = w10 at *
                have ko : Calls Tryd.prog 22 #[.pointer (some ⟨g, 0, none⟩), .string (mkB ts), .string (mkB os)] w10 (OrderPost w10 (if y = 122 then 1 else -1, 0)) := by
                  have := order_any (some ⟨g, 0, none⟩) (some aG) (mkB ts) (mkB os) w10 HA10.out
                  rw [show orderRes (readResO (some aG) (mkB ts)) (readResO (some aG) (mkB os)) (mkB ts) (mkB os) = _ from HO2.out] at this
                  exact this
                have ks : ∀ W, AlphO W (some ⟨g, 0, none⟩) (some aG) → Calls Tryd.prog 24 #[.pointer (some ⟨g, 0, none⟩), .string (mkB ts), .string (mkB os)] W (SamePost W false) := fun W h => by
                  have := same_any (some ⟨g, 0, none⟩) (some aG) (mkB ts) (mkB os) W h
                  rw [show sameRes (readResO (some aG) (mkB ts)) (readResO (some aG) (mkB os)) = _ from HO3.out] at this
                  exact this
                have KS := Lib.hid ks
                clear ks HO2 HO3 HO1
                refine ko.mono ?_
                rintro e w11 ⟨rfl, hb11⟩
                have HB11 := Below.go HB10.out (Nat.le_refl _) hb11
                have HA11 := Lib.hid (HA10.out.below hb11)
                have hv2' : (convert 42 9 (.slice A10 (p + 1) c10)).run Tryd.prog w11 = .ok (.string (mkB ts)) w11 := own_conv (own_below HR10.out hb11)
                have hv3' : (convert 42 9 (.slice (some ⟨qo, 0, none⟩) (p + 1) co)).run Tryd.prog w11 = .ok (.string (mkB os)) w11 := own_conv (own_below HRO.out hb11)
                obtain ⟨ad9', had9e, _, hc9⟩ := ReadB.at_ (k := p) (Reads.of_own (own_below HR9.out hb11)) hpl
                rw [HCY.out] at hc9
                obtain rfl := Option.some.inj had9e
                clear HB10 HA10 HR9 HR10 HRO hb11 hv2 hv3 ko had9e
                by_cases h122 : y = 122
                · subst h122
                  rw [if_pos rfl]
                  go_wp2_with fail
                  refine (KS.out _ HA11.out).mono ?_
                  rintro e w12 ⟨rfl, hb12⟩
                  have HB12 := Below.go HB11 (Nat.le_refl _) hb12
                  clear HB11 HA11 hb12 KS hv2' hv3' hc9
                  go_wp2_with fail
                  refine (KW.out _ HB12).mono ?_
                  rintro e w13 ⟨rfl, hb13⟩
                  go_wp2
                  go_ret
                  exact ⟨rfl, HB12.trans (hb13.mono HB12.size)⟩
                · rw [if_neg h122]
                  have h122' : ¬ (y : Int) = 122 := by omega
                  have hbq : ((y : Int) == 122) = false := by rw [beq_eq_false_iff_ne]; exact h122'
                  go_wp2_with fail
                  refine (KS.out _ HA11.out).mono ?_
                  rintro e w12 ⟨rfl, hb12⟩
                  have HB12 := Below.go HB11 (Nat.le_refl _) hb12
                  clear HB11 HA11 hb12 KS hv2' hv3' hc9
                  go_wp2_with fail
                  refine (KW.out _ HB12).mono ?_
                  rintro e w13 ⟨rfl, hb13⟩
                  go_wp2
                  go_ret
                  exact ⟨by show Ending.returned (.bool ((y : Int) != 122)) = _; rw [show ((y : Int) != 122) = true from bne_iff_ne.2 h122'], HB12.trans (hb13.mono HB12.size)⟩
end Go.Proofs.YtcdpadggjkobjaaDoor
