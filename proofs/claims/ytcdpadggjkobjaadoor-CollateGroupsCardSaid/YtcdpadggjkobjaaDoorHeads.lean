/-
  layer 39: Heads of the program. Conditions: an alphabet of New, or none.
-/
import Derived.Test.YtcdpadggjkobjaaDoorSorted
import Derived.Test.YtcdpadggjkobjaaDoorSortP
namespace Go.Proofs.YtcdpadggjkobjaaDoor
open Go.RowKit Go.Lib

theorem cell_one_in (w : World) (x : Value) (t : TypeId) (b : Nat) (h : b = w.heap.size) : ∀ j u, [x][j]? = some u → (w.alloc (.cells #[x] t)).cell? ((⟨b, 0, none⟩ : Addr).add j) = some u := by
  subst h; exact cell_one_new w x t
theorem add_zero (a : Addr) : a.add 0 = a := by unfold Addr.add; split <;> simp_all
theorem headsN_any (A : Option Addr) (n c : Nat) (w : World) : Calls Tryd.prog 39 #[.pointer none, .slice A n c] w (HeadsPost w (1, [], [])) := by
  have h := sortedN_any A n c w
  go_enter Tryd.func39, Tryd.ntmps39
  go_wp2_with fail
  refine h.mono ?_
  rintro e w1 ⟨A1, n1, c1, ds, rfl, hd, hR, hn1, hb1⟩
  clear hd
  go_wp2
  go_ret3
  exact ⟨_, _, rfl, World.ownsRow_nil _ _ _ _, World.ownsRow_nil _ _ _ _, hb1⟩
set_option maxRecDepth 100000 in
set_option maxHeartbeats 4000000 in
theorem heads_prg (g : Nat) (gs : List (List ByteArray)) (A : Option Addr) (n c : Nat) (ss : List ByteArray) (w : World) (hA : Alph w g gs) (hG : GoodG gs) (hr : ReadS w w.heap.size A n ss) (hn : n ≤ maxLen) :
    Calls Tryd.prog 39 #[.pointer (some ⟨g, 0, none⟩), .slice A n c] w (HeadsPost w (headsResO (some gs) ss)) := by
  have h := sorted_prg g gs A n c ss w hA hG hr hn
  have herr := sortResO_err (og := some gs) (l := ss)
  rw [show sortResO (some gs) ss = sortRes gs ss from rfl] at herr
  have hmem := fun e (he : e ∈ (sortRes gs ss).2) => sortRes_mem he
  have hsort : SortedE (sortRes gs ss).2 := by
    unfold sortRes
    split
    · exact List.Pairwise.nil
    · split
      · exact sortE_sorted _
      · exact List.Pairwise.nil
  rw [show headsResO (some gs) ss = ((sortRes gs ss).1, headsL gs (if (sortRes gs ss).1 = 0 then rleN gs.length (firsts (sortRes gs ss).2) else []), countsL (if (sortRes gs ss).1 = 0 then rleN gs.length (firsts (sortRes gs ss).2) else [])) from rfl]
  generalize sortRes gs ss = r at h herr hmem hsort ⊢
  have HERR := Lib.hid herr; have HMEM := Lib.hid hmem; have HSORT := Lib.hid hsort
  clear herr hmem hsort hr hn
  by_cases hz : r.1 = 0
  · have hzb : (r.1 != 0) = false := by rw [hz]; rfl
    rw [if_pos hz, hz]
    have HZ := Lib.hid hz
    clear hz
    obtain ⟨i0, hi, hz0, hz1, hz2⟩ := info_parts info_string
    obtain ⟨i1, hi1, hy0, hy1, hy2⟩ := info_parts info_int
    go_enter Tryd.func39, Tryd.ntmps39
    go_wp2_with fail
    refine h.mono ?_
    rintro e w1 ⟨A1, n1, c1, ds, rfl, hd, hR, hn1, hb1⟩
    rw [HZ.out]
    have hHL := hR.len
    have hA1 := hA.below hb1
    have HL := Lib.hid hHL; have HD := Lib.hid hd; have HA1 := Lib.hid hA1
    clear h hd hA hHL hA1
    go_wp2_with fail
    go_loopw [9, 10, 11, 25] (fun vh vc la i wr => ∃ (k : Nat) (R : List (Nat × Nat)) (last : Int), k ≤ n1 ∧ i = .int .i64 k ∧ la = .int .i64 last ∧ HdSt gs r.2 k R last ∧ R.length ≤ k ∧
      wr.ownsRow w1.heap.size 9 1 vh R.length (strs (headsL gs R)) ∧ wr.ownsRow w1.heap.size 3 1 vc R.length (ints (countsL R)) ∧ Below w1.heap.size w1 wr) (fun _ _ _ i _ => n1 - (intOf i).toNat)
    case atStart => exact ⟨0, [], -1, by omega, rfl, rfl, ⟨by simp [rleN, firsts], rfl⟩, Nat.le_refl _, World.ownsRow_nil _ _ _ _, World.ownsRow_nil _ _ _ _, Below.refl _ _⟩
    case round =>
      obtain ⟨k, R, last, hk, rfl, rfl, hS, hRk, hoh, hoc, hb⟩ := hrel
      have HS := Lib.hid hS; clear hS
      by_cases hlt : k < n1
      · have hkl : k < ds.length := by rw [HL.out]; exact hlt
        have hke : k < r.2.length := by rw [← HD.out]; simpa [entE] using hkl
        have hent : ds[k].ent = r.2[k] := by rw [← entE_get hkl]; simp only [HD.out]
        obtain ⟨g0, rfl, had, hc0, hc1, hkey, hkn⟩ := (hR.below hb).at_ (k := k) hkl
        have hkl2 := hkey.len
        have hkeys : ds[k].key = r.2[k].1 := by rw [← hent]; rfl
        generalize ds[k] = x at hc0 hc1 hkey hkn hkl2 hkeys
        obtain ⟨xA, xn, xc, xk, xt⟩ := x
        simp only at hc0 hc1 hkey hkn hkl2 hkeys
        have HKEYS := Lib.hid hkeys; have HKL2 := Lib.hid hkl2
        clear hent hkeys hkl2
        have hbx : Below w1.heap.size w1 (wr.alloc (.cells #[.slice xA xn xc, .string xt] 82)) := hb.alloc hb.size _
        have hkx := (hkey.more hb.size).alloc (Nat.le_refl _) (.cells #[.slice xA xn xc, .string xt] 82)
        have hkn' := hkn
        unfold maxLen at hkn'
        have hoh' := hoh.alloc (.cells #[.slice xA xn xc, .string xt] 82)
        have hoc' := hoc.alloc (.cells #[.slice xA xn xc, .string xt] 82)
        by_cases h0 : xn = 0
        · have hempty : r.2[k].1 = [] := by rw [← HKEYS.out]; exact List.eq_nil_of_length_eq_zero (by rw [HKL2.out]; exact h0)
          have hS' := hdSt_empty HS.out hke hempty
          have h0b : ((xn : Int) == 0) = true := by rw [h0]; rfl
          have HS' := Lib.hid hS'
          clear h0 hempty hS' hoh hoc hkx
          go_wp2
          go_roundw
          case rel => exact ⟨k + 1, R, last, by omega, by go_num, rfl, HS'.out, by omega, hoh', hoc', hbx⟩
          case measure => simp [intOf]; omega
        · have h0b : ((xn : Int) == 0) = false := by rw [beq_eq_false_iff_ne]; omega
          have hxn : 0 < xn := by omega
          have hxl : 0 < xk.length := by rw [HKL2.out]; omega
          obtain ⟨ak, hAk, hakb, hck⟩ := ReadI.at_ (k := 0) hkx hxl
          subst hAk
          have hck0 := hck
          rw [add_zero] at hck0
          obtain ⟨a, ha, hag, hane⟩ : PlaceOk gs xk[0] := by
            have h1 := HMEM.out r.2[k] (List.getElem_mem hke)
            refine entOf_places (s := r.2[k].2) ?_
            rw [← h1.2.1, ← HKEYS.out]
            exact List.getElem_mem hxl
          have hcons : r.2[k].1 = (a : Int) :: xk.tail := by
            rw [← HKEYS.out, ← ha]
            cases xk with
            | nil => simp at hxl
            | cons y ys => rfl
          rw [ha] at hck hck0
          obtain ⟨n1', n2'⟩ := hdSt_next HS.out HSORT.out hke hag hcons
          have HN1 := Lib.hid n1'; have HN2 := Lib.hid n2'
          clear n1' n2' hcons ha h0 hkx hkey
          by_cases hla : last = (a : Int)
          · obtain ⟨pre, m, rfl, hS', hmk⟩ := HN2.out hla
            have hlb : ((a : Int) != last) = false := by rw [hla]; simp
            have HS' := Lib.hid hS'
            have hcs := countsL_snoc pre a m
            have hcs2 := countsL_snoc pre a (m + 1)
            have hhs := headsL_snoc gs pre a m
            have hhs2 := headsL_snoc gs pre a (m + 1)
            rw [hcs, List.length_append, List.length_singleton] at hoc'
            rw [hhs, List.length_append, List.length_singleton] at hoh'
            rw [List.length_append, List.length_singleton] at hRk
            obtain ⟨gc, cc, rfl, hgc, hgclt⟩ := World.ownsRow.form hoc' (Nat.succ_pos _)
            have hcl := World.ownsRow.cellAt hoc' pre.length (by omega)
            have hfz := World.ownsRow.frozenAt hoc' pre.length
            have hgetm : (ints (countsL pre ++ [(m : Int)]))[pre.length]? = some (.int .i64 m) := by
              rw [List.getElem?_map, List.getElem?_append_right (by rw [countsL_len]; exact Nat.le_refl _), countsL_len, Nat.sub_self]; rfl
            rw [hgetm] at hcl
            obtain ⟨hoc2, hg2⟩ := World.ownsRow.stored hoc' pre.length (.int .i64 ((m : Int) + 1))
            have hset : (ints (countsL pre ++ [(m : Int)])).set pre.length (.int .i64 ((m : Int) + 1)) = ints (countsL (pre ++ [(a, m + 1)])) := by
              rw [hcs2]
              show ((countsL pre ++ [(m : Int)]).map (Value.int .i64)).set pre.length (.int .i64 ((m : Int) + 1)) = (countsL pre ++ [((m + 1 : Nat) : Int)]).map (Value.int .i64)
              rw [List.map_append, List.map_append, List.set_append_right _ _ (by rw [List.length_map, countsL_len]; exact Nat.le_refl _), List.length_map, countsL_len, Nat.sub_self]; rfl
            rw [hset] at hoc2
            have hoh2 := World.ownsRow.kept hoh' hg2 (own_own_ne hoh' hoc' (by decide))
            rw [← hhs, hhs, ← hhs2] at hoh2
            have hlen : (pre ++ [(a, m + 1)]).length = pre.length + 1 := by simp
            have hb2 : Below w1.heap.size w1 ((wr.alloc (.cells #[.slice (some ak) xn xc, .string xt] 82)).setCell ⟨gc, pre.length, none⟩ (.int .i64 ((m : Int) + 1))) := hbx.setCell hgc _
            have HLEN := Lib.hid hlen; have HOC2 := Lib.hid hoc2; have HOH2 := Lib.hid hoh2
            obtain ⟨Ah, ch, rfl, _, _⟩ := ownsRow_form hoh'
            clear hcs hcs2 hhs hhs2 hgetm hset hlen hoc2 hoh2 hg2 hoh hoc hS' hoc' hoh' HN1 HN2 HS
            go_wp2
            go_roundw
            case rel => exact ⟨k + 1, pre ++ [(a, m + 1)], a, by omega, by go_num, by rw [hla], HS'.out, by rw [HLEN.out]; omega, by rw [HLEN.out]; exact HOH2.out, by rw [HLEN.out]; exact HOC2.out, hb2⟩
            case measure => simp [intOf]; omega
          · have hS' := HN1.out hla
            have hlb : ((a : Int) != last) = true := by rw [bne_iff_ne]; exact fun e => hla e.symm
            have hax : Alph (wr.alloc (.cells #[.slice (some ak) xn xc, .string xt] 82)) g gs := HA1.out.below hbx
            obtain ⟨base, v, mb, cnt, cs, h1, h2, h3, _⟩ := hax
            have hcg := (h1.cell 0).trans h2.2.1
            obtain ⟨b1, cb1, b2, nb2, cb2, rfl, hg1, hnb1, hnb2, hg2⟩ := head_at h3 hag hane
            have hcs := countsL_snoc R a 1
            have hhs := headsL_snoc gs R a 1
            have HCS := Lib.hid hcs; have HHS := Lib.hid hhs; have HS' := Lib.hid hS'
            generalize headG gs a = hd at hg2 HHS
            unfold maxLen at hnb2
            have hglen : (a : Int) < gs.length := by omega
            have hbz := hb.size
            clear hcs hhs h1 h2 h3 hS' hla HN1 HN2 HS
            go_wp2_with (first
              | (at_builtin; refine wpList_append_own _ rfl _ _ 22 rfl w1.heap.size 9 i0 (.string ByteArray.empty) 1 16 Tryd.underlying22 hi hz0 hz1 hz2 rfl (by decide) _ _ _ rfl (hoh'.alloc _) ⟨_, 0, none⟩ 1 1 [.string hd] rfl rfl (cell_one_in _ _ _ _ (by simp)) (by simp [Value.oneCell']) (by unfold maxLen; omega) (by omega) (by simp; omega) ?_; intro v' w3 hown3 hgrow3 hx; clear hx; have hoc3 := World.ownsRow.kept (hoc'.alloc (.cells #[.string hd] 9)) hgrow3 (own_own_ne (hoc'.alloc (.cells #[.string hd] 9)) (hoh'.alloc (.cells #[.string hd] 9)) (by decide)); have hb3 : Below w1.heap.size w1 w3 := (hbx.alloc hbx.size _).grown hgrow3 (by simp; omega) (fun g hg => (hoh'.lt g hg).1); clear hgrow3)
              | (at_builtin; refine wpList_append_own _ rfl _ _ 32 rfl w1.heap.size 3 i1 (.int .i64 0) 1 8 Tryd.underlying32 hi1 hy0 hy1 hy2 rfl (by decide) _ _ _ rfl (hoc3.alloc _) ⟨w3.heap.size, 0, none⟩ 1 1 [.int .i64 0] rfl rfl (cell_one_new _ _ _) (by simp [Value.oneCell']) (by unfold maxLen; omega) (by omega) (by have := hb3.size; simp; omega) ?_; intro v'' w4 hown4 hgrow4 hx; clear hx; have hoh4 := World.ownsRow.kept (hown3.alloc (.cells #[.int .i64 0] 3)) hgrow4 (own_own_ne (hown3.alloc (.cells #[.int .i64 0] 3)) (hoc3.alloc (.cells #[.int .i64 0] 3)) (by decide)); have hb4 : Below w1.heap.size w1 w4 := (hb3.alloc hb3.size _).grown hgrow4 (by have := hb3.size; simp; omega) (fun g hg => (hoc3.lt g hg).1); clear hgrow4; obtain ⟨gc, cc, rfl, hgc, hgclt⟩ := World.ownsRow.form hown4 (Nat.succ_pos _); have hcl := World.ownsRow.cellAt hown4 R.length (by omega); have hfz := World.ownsRow.frozenAt hown4 R.length; rw [List.getElem?_append_right (by rw [List.length_map, countsL_len]; exact Nat.le_refl _), List.length_map, countsL_len, Nat.sub_self, List.getElem?_cons_zero] at hcl))
            obtain ⟨hoc5, hg5⟩ := World.ownsRow.stored hown4 R.length (.int .i64 1)
            have hset : (ints (countsL R) ++ [Value.int .i64 0]).set R.length (.int .i64 1) = ints (countsL (R ++ [(a, 1)])) := by
              rw [HCS.out]
              show ((countsL R).map (Value.int .i64) ++ [Value.int .i64 0]).set R.length (.int .i64 1) = (countsL R ++ [((1 : Nat) : Int)]).map (Value.int .i64)
              rw [List.map_append, List.set_append_right _ _ (by rw [List.length_map, countsL_len]; exact Nat.le_refl _), List.length_map, countsL_len, Nat.sub_self]; rfl
            have hoc6 : (w4.setCell ⟨gc, R.length, none⟩ (.int .i64 1)).ownsRow w1.heap.size 3 1 (.slice (some ⟨gc, 0, none⟩) (R.length + 1) cc) (R ++ [(a, 1)]).length (ints (countsL (R ++ [(a, 1)]))) := by
              rw [← hset, List.length_append, List.length_singleton]; exact hoc5
            have hoh6 := World.ownsRow.kept hoh4 hg5 (own_own_ne hoh4 hown4 (by decide))
            have hoh7 : (w4.setCell ⟨gc, R.length, none⟩ (.int .i64 1)).ownsRow w1.heap.size 9 1 v' (R ++ [(a, 1)]).length (strs (headsL gs (R ++ [(a, 1)]))) := by
              rw [HHS.out, List.length_append, List.length_singleton, show strs (headsL gs R ++ [hd]) = strs (headsL gs R) ++ [.string hd] by simp]; exact hoh6
            have hb5 : Below w1.heap.size w1 (w4.setCell ⟨gc, R.length, none⟩ (.int .i64 1)) := hb4.setCell hgc _
            have HOC := Lib.hid hoc6; have HOH := Lib.hid hoh7
            clear hoc5 hg5 hset hoc6 hoh6 hoh7 hown3 hoc3 hown4 hoh4 hoh' hoc' hoh hoc
            go_wp2
            go_roundw
            case rel => exact ⟨k + 1, R ++ [(a, 1)], a, by omega, by go_num, rfl, HS'.out, by rw [List.length_append, List.length_singleton]; omega, HOH.out, HOC.out, hb5⟩
            case measure => simp [intOf]; omega
      · obtain rfl : k = n1 := by omega
        have hts : r.2.take k = r.2 := List.take_of_length_le (by rw [← HD.out]; simp [entE, HL.out])
        have hrl := HS.out.rle
        rw [hts] at hrl
        have HRL := Lib.hid hrl
        clear hrl
        obtain ⟨Ah, ch, rfl, _, _⟩ := ownsRow_form hoh
        obtain ⟨Ac, cc, rfl, _, _⟩ := ownsRow_form hoc
        go_wp2
        go_ret3
        refine ⟨_, _, rfl, ?_, ?_, hb1.trans (hb.mono hb1.size)⟩
        · show World.ownsRow _ _ _ _ _ (headsL gs (rleN gs.length (firsts r.2))).length _
          rw [headsL_len, ← HRL.out]; exact own_mono hoh hb1.size
        · show World.ownsRow _ _ _ _ _ (countsL (rleN gs.length (firsts r.2))).length _
          rw [countsL_len, ← HRL.out]; exact own_mono hoc hb1.size
  · rw [if_neg hz]
    have hzb : (r.1 != 0) = true := by rw [bne_iff_ne]; exact hz
    clear hz HERR
    go_enter Tryd.func39, Tryd.ntmps39
    go_wp2_with fail
    refine h.mono ?_
    rintro e w1 ⟨A1, n1, c1, ds, rfl, hd, hR, hn1, hb1⟩
    clear hd
    go_wp2
    go_ret3
    exact ⟨_, _, rfl, World.ownsRow_nil _ _ _ _, World.ownsRow_nil _ _ _ _, hb1⟩
theorem headsO_any (p : Option Addr) (og : Option (List (List ByteArray))) (A : Option Addr) (n c : Nat) (ss : List ByteArray) (w : World) (hA : AlphO w p og) (hr : ReadS w w.heap.size A n ss) (hn : n ≤ maxLen) :
    Calls Tryd.prog 39 #[.pointer p, .slice A n c] w (HeadsPost w (headsResO og ss)) := by
  cases og with
  | none => obtain rfl : p = none := hA; exact headsN_any A n c w
  | some gs => obtain ⟨g, rfl, h1, h2⟩ := hA; exact heads_prg g gs A n c ss w h1 h2 hr hn
end Go.Proofs.YtcdpadggjkobjaaDoor
