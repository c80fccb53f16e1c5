/-
  layer 37: field: a map of 3 to 12 points, and its roads. Conditions: bytes that are read.
-/
import Derived.Test.YtgimhjkijpcgjaaDoorGax
import Derived.Test.YtgimhjkijpcgjaaDoorGac
import Derived.IntWalk
import Derived.Test.YtgimhjkijpcgjaaDoorGaa
import Derived.Deep.QuietTactic
import Derived.BigQuiet
import Derived.Test.YtgimhjkijpcgjaaDoorGaw
namespace Go.Proofs.YtgimhjkijpcgjaaDoor
open Go.RowKit Go.Lib

theorem madeBool (n : Nat) : madeCells #[.bool false] n = ((List.replicate n false).map Value.bool).toArray := by
  apply Array.ext
  · simp [madeCells]
  · intro i h1 h2
    simp [madeCells, Nat.mod_one]
theorem FldM.start (w : World) (n : Nat) : FldM w.heap.size w ((((w.alloc (.cells #[.int .i64 (n : Int)] 3)).alloc (.cells #[.slice none 0 0] 23)).alloc (.cells (madeCells #[.bool false] (n * n)) 4)).alloc (.cells #[.slice (some ⟨w.heap.size + 1 + 1, 0, none⟩) (n * n) (n * n)] 111)) w.heap.size (w.heap.size + 1) (w.heap.size + 1 + 1 + 1) (w.heap.size + 1 + 1) n (.slice none 0 0) [] (List.replicate (n * n) false) := by
  have k1 := (((Blk.new w 3 #[.int .i64 (n : Int)]).alloc (.cells #[.slice none 0 0] 23)).alloc (.cells (madeCells #[.bool false] (n * n)) 4)).alloc (.cells #[.slice (some ⟨w.heap.size + 1 + 1, 0, none⟩) (n * n) (n * n)] 111)
  have k2 := ((Blk.new (w.alloc (.cells #[.int .i64 (n : Int)] 3)) 23 #[.slice none 0 0]).alloc (.cells (madeCells #[.bool false] (n * n)) 4)).alloc (.cells #[.slice (some ⟨w.heap.size + 1 + 1, 0, none⟩) (n * n) (n * n)] 111)
  have k3 := (Blk.new ((w.alloc (.cells #[.int .i64 (n : Int)] 3)).alloc (.cells #[.slice none 0 0] 23)) 4 (madeCells #[.bool false] (n * n))).alloc (.cells #[.slice (some ⟨w.heap.size + 1 + 1, 0, none⟩) (n * n) (n * n)] 111)
  have k4 := Blk.new (((w.alloc (.cells #[.int .i64 (n : Int)] 3)).alloc (.cells #[.slice none 0 0] 23)).alloc (.cells (madeCells #[.bool false] (n * n)) 4)) 111 #[.slice (some ⟨w.heap.size + 1 + 1, 0, none⟩) (n * n) (n * n)]
  simp only [World.size_alloc] at k2 k3 k4
  rw [madeBool] at k3
  refine ⟨k1, k4, ?_, k2, World.ownsRow_nil _ _ _ _, FldI.start n, by omega, by omega, ?_⟩
  · rw [madeBool]; exact k3
  · exact ((((Below.refl _ w).alloc (Nat.le_refl _) _).alloc (by simp) _).alloc (by simp; omega) _).alloc (by simp; omega) _
theorem FldM.names {B : Nat} {W0 W W' : World} {g6 g8 g9 qT n : Nat} {vR : Value} {R : List Rd} {T : List Bool} (h : FldM B W0 W g6 g8 g9 qT n vR R T) {b s k : Nat} {v : Value} {xs : List Value} (ho : W.ownsRow b 9 s v k xs) (hg : W.grownBy W' v.ownBlock) (hb : B ≤ b) (hB : B ≤ W.heap.size) : FldM B W0 W' g6 g8 g9 qT n vR R T :=
  ⟨h.b6.grown hg (fun e => own_blk_ne ho h.b6 (by decide) e.symm), h.b9.grown hg (fun e => own_blk_ne ho h.b9 (by decide) e.symm), h.bT.grown hg (fun e => own_blk_ne ho h.bT (by decide) e.symm), h.b8.grown hg (fun e => own_blk_ne ho h.b8 (by decide) e.symm),
    h.own.kept hg (own_own_ne h.own ho (by decide)), h.inv, h.h8, h.hT, h.bel.grown hg hB (fun r e => Nat.le_trans hb (ho.lt r e).1)⟩
def FieldPost (w : World) (n : Nat) (e : Ending) (w' : World) : Prop :=
  ∃ p vR R, e = .returned (.tuple #[.pointer p, vR]) ∧ MapO w' p (some (newM (fldN n) R)) ∧ newE (fldN n) R = 0 ∧ w'.ownsRow w.heap.size 71 3 vR R.length (R.flatMap roadV) ∧ R.length ≤ 40 ∧ Below w.heap.size w w'
theorem name_conv (w : World) (a : Nat) (ha : a ≤ 12) : (convert 64 9 (.slice (some ⟨w.heap.size, 0, none⟩) 1 1)).run Tryd.prog (w.alloc (.cells #[.int .u8 ((97 : Int) + a)] 5)) = .ok (.string ⟨#[UInt8.ofNat (97 + a)]⟩) (w.alloc (.cells #[.int .u8 ((97 : Int) + a)] 5)) := by
  refine run_convert_bytes_back (P := Tryd.prog) _ 64 9 5 ⟨w.heap.size, 0, none⟩ 1 [UInt8.ofNat (97 + a)] Tryd.underlying64 Tryd.underlying5 Tryd.underlying9 (fun i hi => ?_)
  obtain rfl : i = 0 := by simpa using hi
  rw [add_at]
  refine ((Blk.new w 5 #[.int .u8 ((97 : Int) + a)]).cell 0).trans ?_
  simp
  omega
set_option maxRecDepth 40000 in
set_option maxHeartbeats 8000000 in
theorem field_any (hnew : NewAny) (x8 : UInt8) (A : Option Addr) (m c : Nat) (xs : List UInt8) (w : World) (hm : m ≤ maxLen) (h : ReadB w w.heap.size A m xs) :
    Calls Tryd.prog 33 #[.int .u8 x8.toNat, .slice A m c] w (FieldPost w (3 + x8.toNat % 10)) := by
  obtain ⟨i0, hi, hz0, hz1, hz2⟩ := info_parts (show (Tryd.prog.info? 9).map (fun i => (i.zero, i.size, i.bytes)) = some (some (.string ⟨#[]⟩), 1, 16) by kernel_rfl)
  have hx8 : x8.toNat < 256 := x8.toNat_lt
  obtain ⟨n, hn⟩ : ∃ n, 3 + x8.toNat % 10 = n := ⟨_, rfl⟩
  have hn12 : n ≤ 12 := by omega
  have hn3 : 3 ≤ n := by omega
  rw [hn]
  have hnI : (3 : Int) + (x8.toNat : Int) % 10 = (n : Int) := by omega
  have hml := h.len
  generalize x8.toNat = y at *
  have hst := FldM.start w n
  have hmm := (mul_bound hn12 (a := 0) (b := 0) (by omega) (by omega)).2.2
  have hmmI : ((n : Int) * (n : Int)) = ((n * n : Nat) : Int) := by rw [Int.natCast_mul]
  have hmk := fun W => run_make_row' (P := Tryd.prog) 111 4 (.bool false) 1 Tryd.underlying111 (by kernel_rfl) rfl .i64 .i64 (n * n) (by omega) (by omega) W
  have HST := Lib.hid hst; have HX := Lib.hid h; have HNEW := Lib.hid hnew; have HML := Lib.hid hml
  unfold maxLen at hm
  clear h hst hnew hml hn
  obtain ⟨m2, hm2⟩ : ∃ m2, n * n = m2 := ⟨_, rfl⟩
  have HM2 := Lib.hid hm2
  rw [hm2] at hmm hmmI hmk HST
  clear hm2
  go_enter Tryd.func33, Tryd.ntmps33
  go_wp2
  clear hnI hmmI hmk
  have hsz4 : w.heap.size ≤ ((((w.alloc (.cells #[.int .i64 (n : Int)] 3)).alloc (.cells #[.slice none 0 0] 23)).alloc (.cells (madeCells #[.bool false] m2) 4)).alloc (.cells #[.slice (some ⟨w.heap.size + 1 + 1, 0, none⟩) m2 m2] 111)).heap.size := by simp; omega
  have HSZ4 := Lib.hid hsz4
  clear hsz4
  go_loopw [7, 25] (fun v i wr => ∃ a : Nat, a ≤ n ∧ i = .int .i64 a ∧ w.heap.size ≤ wr.heap.size ∧ wr.ownsRow w.heap.size 9 1 v a ((fldN a).map Value.string) ∧ ∃ vR R T, FldM w.heap.size w wr w.heap.size (w.heap.size + 1) (w.heap.size + 1 + 1 + 1) (w.heap.size + 1 + 1) n vR R T ∧ R.length ≤ a) (fun _ i _ => n - (intOf i).toNat)
  case atStart => exact ⟨0, by omega, rfl, HSZ4.out, World.ownsRow_nil _ _ _ _, _, _, _, HST.out, Nat.le_refl _⟩
  case round =>
    clear HST HSZ4
    obtain ⟨a, ha, rfl, hsz, hown, vR, R, T, hM, hRa⟩ := hrel
    obtain ⟨A7, c7, rfl, _, _⟩ := ownsRow_form hown
    have HO := Lib.hid hown; have HM := Lib.hid hM
    clear hown hM
    by_cases hlt : a < n
    · have hltI : (a : Int) < (n : Int) := by omega
      have hcv := name_conv wr a (by omega)
      have hal1 : Below wr.heap.size wr (wr.alloc (.cells #[.int .u8 ((97 : Int) + a)] 5)) := (Below.refl _ wr).alloc (Nat.le_refl _) _
      have hal2 := hal1.alloc (by simp) (.cells #[.string ⟨#[UInt8.ofNat (97 + a)]⟩] 9)
      have hrn := reads_new (wr.alloc (.cells #[.int .u8 ((97 : Int) + a)] 5)) 9 [.string ⟨#[UInt8.ofNat (97 + a)]⟩]
      rw [World.size_alloc] at hrn
      have HRN := Lib.hid hrn
      clear hrn
      have HO2 := Lib.hid (own_below HO.out hal2)
      have HM2' := Lib.hid (HM.out.later hal2 hsz)
      have hsz2 := hal2.size
      have HSN := Lib.hid (fldN_succ a)
      have hl : (fldN a).length = a := fldN_len a
      have HLN := Lib.hid hl
      clear hal1 hal2 hl
      generalize hnm : (⟨#[UInt8.ofNat (97 + a)]⟩ : ByteArray) = nm at hcv HRN HO2 HM2' hsz2 HSN
      clear hnm
      go_upto_region 10 with (at_builtin; refine wpList_append_any _ rfl _ _ 22 rfl w.heap.size 9 i0 (.string ⟨#[]⟩) 1 16 Tryd.underlying22 hi hz0 hz1 hz2 rfl (by decide) _ _ _ rfl HO2.out _ _ _ _ [.string nm] rfl HRN.out (by simp [Value.oneCell']) (by unfold maxLen; omega) (by omega) (by simp; omega) ?_; intro v' w3 hown' hgrow hx; clear hx; have HM3 := Lib.hid (HM2'.out.names HO2.out hgrow (Nat.le_refl _) (by simp; omega)); have HO3 := Lib.hid hown'; have hsz3 := hgrow.size; clear hown' hgrow)
      have hw3 : w.heap.size ≤ w3.heap.size := HM3.out.bel.size
      have HMAP : Hid ((fldN (a + 1)).map Value.string = (fldN a).map Value.string ++ [.string nm]) := Lib.hid (by rw [HSN.out, List.map_append]; rfl)
      clear hcv HRN HO2 HM2' hsz2 hsz3 HSN HLN HO HM
      rcases Nat.eq_zero_or_pos a with h0 | h0
      · subst h0
        go_wp2
        go_roundw
        case rel => exact ⟨0 + 1, by omega, by go_num, hw3, by rw [HMAP.out]; exact HO3.out, vR, R, T, HM3.out, by omega⟩
        case measure => simp [intOf]; omega
      · have h0I : (0 : Int) < (a : Int) := by omega
        by_cases hq : y / 10 % 3 = a % 4
        · have hqI : (y : Int) / 10 % 3 = (a : Int) % 4 := by omega
          have hqB : (((y : Int) / 10 % 3) != ((a : Int) % 4)) = false := by rw [hqI]; simp
          clear hqI
          go_wp2
          go_roundw
          case rel => exact ⟨a + 1, by omega, by go_num, hw3, by rw [HMAP.out]; exact HO3.out, vR, R, T, HM3.out, by omega⟩
          case measure => simp [intOf]; omega
        · have hqB : (((y : Int) / 10 % 3) != ((a : Int) % 4)) = true := by simp; omega
          obtain ⟨a', rfl⟩ : ∃ a', a = a' + 1 := ⟨a - 1, by omega⟩
          have hadd := add37_any w.heap.size w w3 w.heap.size (w.heap.size + 1) (w.heap.size + 1 + 1 + 1) (w.heap.size + 1 + 1) n vR R T a' (a' + 1) HM3.out hn12 hw3 (by omega) (by omega) (by omega)
          go_wp2_with fail
          refine hadd.mono ?_
          rintro e w4 ⟨rfl, vR', R', T', hM', hR', hk'⟩
          have HM4 := Lib.hid hM'; have HO4 := Lib.hid (hk'.own HO3.out)
          clear hM' hk' hadd
          go_wp2
          go_roundw
          case rel => exact ⟨a' + 1 + 1, by omega, by go_num, HM4.out.bel.size, by rw [HMAP.out]; exact HO4.out, vR', R', T', HM4.out, by omega⟩
          case measure => simp [intOf]; omega
    · obtain rfl : n = a := by omega
      clear hi hz0 hz1 hz2
      go_wp2
      have HO0 := Lib.hid HO.out; have HM00 := Lib.hid HM.out; have HSZ0 := Lib.hid hsz
      obtain ⟨wo, rfl⟩ : ∃ wo : World, wo = wr := ⟨_, rfl⟩
      clear HO HM hsz
      go_loopw [12] (fun i wr => ∃ k : Nat, k ≤ 20 ∧ k ≤ m ∧ i = .int .i64 k ∧ w.heap.size ≤ wr.heap.size ∧ wr.ownsRow w.heap.size 9 1 (.slice A7 n c7) n ((fldN n).map Value.string) ∧ ∃ vR R T, FldM w.heap.size w wr w.heap.size (w.heap.size + 1) (w.heap.size + 1 + 1 + 1) (w.heap.size + 1 + 1) n vR R T ∧ R.length ≤ n + k) (fun i _ => 20 - (intOf i).toNat)
      case atStart => exact ⟨0, by omega, by omega, rfl, HSZ0.out, HO0.out, vR, R, T, HM00.out, by omega⟩
      case round =>
        clear HO0 HM00 HSZ0 hRa vR R T
        obtain ⟨k, hk20, hkm, rfl, hsz, hown, vR, R, T, hM, hRk⟩ := hrel
        have HO := Lib.hid hown; have HM := Lib.hid hM
        clear hown hM
        by_cases hlt2 : k < m ∧ k < 20
        · obtain ⟨hlt2, hlt3⟩ := hlt2
          have hkI : (k : Int) < (m : Int) := by omega
          have hk20I : (k : Int) < 20 := by omega
          have hkx : k < xs.length := by rw [HML.out]; exact hlt2
          obtain ⟨ad, rfl, had, hcx⟩ := HX.out.at_ hkx
          have hc1 := (HM.out.bel.cell (p := ad.add k) (by rw [block_of_add]; exact had)).trans hcx
          have hz : xs[k].toNat < 256 := xs[k].toNat_lt
          have c6 := HM.out.b6.cell 0
          simp only [List.getElem?_toArray, List.getElem?_cons_zero] at c6
          generalize xs[k].toNat = z at *
          have hn0 : ¬ n = 0 := by omega
          obtain ⟨q, hq⟩ : ∃ q, z / 16 = q := ⟨_, rfl⟩
          obtain ⟨r1, hr1⟩ : ∃ r1, z % n = r1 := ⟨_, rfl⟩
          obtain ⟨r2, hr2⟩ : ∃ r2, q % n = r2 := ⟨_, rfl⟩
          have hl1 : r1 < n := by rw [← hr1]; exact Nat.mod_lt _ (by omega)
          have hl2 : r2 < n := by rw [← hr2]; exact Nat.mod_lt _ (by omega)
          have hwz : IntKind.i64.wrap (z : Int) = (z : Int) := IntWalk.i64_in _ (by omega)
          have htm : ((z : Int)).tmod (n : Int) = (r1 : Int) := by rw [← hr1, Int.natCast_emod]; exact Int.tmod_eq_emod_of_nonneg (by omega)
          have hdv : ((z : Int)).tdiv 16 = (q : Int) := by rw [← hq]; rw [Int.tdiv_eq_ediv_of_nonneg (by omega)]; omega
          have hwq : IntKind.i64.wrap (q : Int) = (q : Int) := IntWalk.i64_in _ (by omega)
          have htq : ((q : Int)).tmod (n : Int) = (r2 : Int) := by rw [← hr2, Int.natCast_emod]; exact Int.tmod_eq_emod_of_nonneg (by omega)
          have hadd := add37_any w.heap.size w wr.drew w.heap.size (w.heap.size + 1) (w.heap.size + 1 + 1 + 1) (w.heap.size + 1 + 1) n vR R T r1 r2 (HM.out.later ((Below.refl _ wr).drew) hsz) hn12 hsz hl1 hl2 (by omega)
          have HADD := Lib.hid hadd
          clear hcx hq hr1 hr2 hadd
          go_wp2
          refine region_tail 16 (by kernel_rfl) (by kernel_rfl) ?_
          simp only [List.take_succ_cons, List.take_zero, List.drop_succ_cons, List.drop_zero]
          iterate 16 still_step
          refine wpStill_nil ?_
          go_wp2_with fail
          refine HADD.out.mono ?_
          rintro e w4 ⟨rfl, vR', R', T', hM', hR', hk'⟩
          have HM4 := Lib.hid hM'; have HO4 := Lib.hid (hk'.own (own_dr HO.out))
          clear hM' hk' HADD hwz htm hdv hwq htq c6 hc1
          go_wp2
          go_roundw
          case rel => exact ⟨k + 1, by omega, by omega, by go_num, HM4.out.bel.size, HO4.out, vR', R', T', HM4.out, by omega⟩
          case measure => simp [intOf]; omega
        · obtain ⟨AR, cR, rfl, _, _⟩ := ownsRow_form HM.out.own
          have hE := fld_new HM.out.inv hn12 (by omega)
          have hN : Reads wr wr.heap.size 1 A7 n ((fldN n).map Value.string) := Reads.of_own HO.out
          have hnw := HNEW.out A7 AR n c7 R.length cR (fldN n) R wr hN (Reads.of_own HM.out.own) (fldN_size n)
          have c8 := HM.out.b8.cell 0
          simp only [List.getElem?_toArray, List.getElem?_cons_zero] at c8
          have HE := Lib.hid hE; have HNW := Lib.hid hnw
          clear hE hN hnw HNEW HO
          have hend : (m : Int) ≤ (k : Int) ∨ ((k : Int) < (m : Int) ∧ ¬ (k : Int) < 20) := by omega
          rcases hend with hend | ⟨hend, hend2⟩
          all_goals
            go_wp2_with fail
            refine HNW.out.mono ?_
            intro e w5 h5
            obtain ⟨q, rfl, hq, hb5⟩ := h5.om
            rw [HE.out]
            have e1 : newO (fldN n) R = some (newM (fldN n) R) := by unfold newO; rw [if_pos HE.out]
            rw [e1] at hq
            have HQ := Lib.hid hq
            have HB5 := Lib.hid (HM.out.bel.trans (hb5.mono hsz))
            have HO5 := Lib.hid (own_below HM.out.own hb5)
            have d8 := (HM.out.b8.below hb5 HM.out.b8.lt).cell 0
            simp only [List.getElem?_toArray, List.getElem?_cons_zero] at d8
            clear h5 hq hb5 e1 c8 hend
            go_wp2
            go_region
            go_wp2
            go_ret2
            exact ⟨_, _, R, rfl, HQ.out.below ((Below.refl _ _).drew), HE.out, own_dr HO5.out, by omega, HB5.out.drew⟩
end Go.Proofs.YtgimhjkijpcgjaaDoor
namespace Go.Proofs.YtgimhjkijpcgjaaDoor
open Go.RowKit Go.Lib

def Vals3 (xs : List Int) : Prop := ∀ v ∈ xs, 0 ≤ v ∧ v < 3
def ValPost (w : World) (n : Nat) (e : Ending) (w' : World) : Prop := ∃ v xs, e = .returned v ∧ xs.length = n ∧ Vals3 xs ∧ w'.ownsRow w.heap.size 3 1 v n (xs.map (Value.int .i64)) ∧ Below w.heap.size w w'
theorem u32_in (x : Int) : 0 ≤ IntKind.u32.wrap x ∧ IntKind.u32.wrap x < 4294967296 := by
  have : IntKind.u32.wrap x = x % 4294967296 := rfl
  rw [this]; omega
set_option maxRecDepth 20000 in
set_option maxHeartbeats 2000000 in
theorem valued_any (n : Nat) (x : UInt32) (w : World) (hn : n ≤ 1000) : Calls Tryd.prog 34 #[.int .i64 n, .int .u32 x.toNat] w (ValPost w n) := by
  obtain ⟨i0, hi, hz0, hz1, hz2⟩ := info_parts (show (Tryd.prog.info? 3).map (fun i => (i.zero, i.size, i.bytes)) = some (some (.int .i64 0), 1, 8) by kernel_rfl)
  have hx : x.toNat < 4294967296 := x.toNat_lt
  go_enter Tryd.func34, Tryd.ntmps34
  go_wp2
  go_loopw [1, 5, 7] (fun s v i wr => ∃ (k : Nat) (y : Int) (xs : List Int), k ≤ n ∧ i = .int .i64 k ∧ s = .int .u32 y ∧ 0 ≤ y ∧ y < 4294967296 ∧ xs.length = k ∧ Vals3 xs ∧ wr.ownsRow w.heap.size 3 1 v k (xs.map (Value.int .i64)) ∧ Below w.heap.size w wr) (fun _ _ i _ => n - (intOf i).toNat)
  case atStart => exact ⟨0, x.toNat, [], by omega, rfl, rfl, by omega, by omega, rfl, (fun _ h => by cases h), World.ownsRow_nil _ _ _ _, Below.refl _ _⟩
  case round =>
    obtain ⟨k, y, xs, hk, rfl, rfl, hy0, hy1, hxl, hv3, hown, hb⟩ := hrel
    obtain ⟨A5, c5, rfl, _, _⟩ := ownsRow_form hown
    have HO := Lib.hid hown; have HB := Lib.hid hb; have HV := Lib.hid hv3; have HXL := Lib.hid hxl
    have hsz := hb.size
    clear hown hb hv3 hxl
    by_cases hlt : k < n
    · have hltI : (k : Int) < (n : Int) := by omega
      have HRN := Lib.hid (reads_new wr 3 [.int .i64 (y % 3)])
      go_wp2_with (at_builtin; refine wpList_append_any _ rfl _ _ 26 rfl w.heap.size 3 i0 (.int .i64 0) 1 8 Tryd.underlying26 hi hz0 hz1 hz2 rfl (by decide) _ _ _ rfl (own_al HO.out _) _ _ _ _ [.int .i64 (y % 3)] rfl HRN.out (by simp [Value.oneCell']) (by unfold maxLen; omega) (by omega) (by simp; omega) ?_; intro v' w3 hown' hgrow hx; clear hx; have HO3 := Lib.hid hown'; have HB3 := Lib.hid ((HB.out.alloc hsz _).grown hgrow (by simp; omega) (fun g hg => (HO.out.lt g hg).1)); clear hown' hgrow)
      go_roundw
      case rel =>
        refine ⟨k + 1, _, xs ++ [y % 3], by omega, by go_num, rfl, (u32_in _).1, (u32_in _).2, by rw [List.length_append, HXL.out]; rfl, fun v hv => ?_, by rw [List.map_append]; exact HO3.out, HB3.out⟩
        rcases List.mem_append.1 hv with hv | hv
        · exact HV.out v hv
        · obtain rfl := List.mem_singleton.1 hv
          omega
      case measure => simp [intOf]; omega
    · obtain rfl : n = k := by omega
      go_wp2
      go_ret
      exact ⟨_, xs, rfl, HXL.out, HV.out, HO.out, HB.out⟩
/-- Labels, as labelled asks for them. -/
def LabI (xs : List Int) : Prop := ∀ i (hi : i < xs.length), ∃ k : Nat, k ≤ i ∧ xs[i] = (k : Int) ∧ xs[k]? = some (k : Int)
set_option maxRecDepth 20000 in
set_option maxHeartbeats 2000000 in
theorem labelled_any (A : Option Addr) (n c : Nat) (xs : List Int) (w : World) (h : ReadI w w.heap.size A n xs) (hL : LabI xs) (hn : n ≤ maxLen) :
    Calls Tryd.prog 36 #[.slice A n c, .int .i64 n] w fun e w' => e = .returned (.bool true) ∧ Below w.heap.size w w' := by
  have hxl := h.len
  unfold maxLen at hn
  have H := Lib.hid h; have HL := Lib.hid hL; have HXL := Lib.hid hxl
  clear h hL hxl
  go_enter Tryd.func36, Tryd.ntmps36
  go_wp2
  go_loopw [5] (fun i wr => ∃ k : Nat, k ≤ n ∧ i = .int .i64 k ∧ Below w.heap.size w wr) (fun i _ => n - (intOf i).toNat)
  case atStart => exact ⟨0, by omega, rfl, Below.refl _ _⟩
  case round =>
    obtain ⟨k, hk, rfl, hb⟩ := hrel
    have HB := Lib.hid hb
    clear hb
    by_cases hlt : k < n
    · have hkx : k < xs.length := by rw [HXL.out]; exact hlt
      obtain ⟨q, hqk, hq, hqq⟩ := HL.out k hkx
      have hqx : q < xs.length := by omega
      obtain ⟨ad, rfl, had, hc1, hc2⟩ := readI_two H.out hkx hqx
      have hq2 : xs[q] = (q : Int) := by
        rw [List.getElem?_eq_getElem hqx] at hqq
        injection hqq
      rw [hq] at hc1
      rw [hq2] at hc2
      replace hc1 := (HB.out.cell (p := ad.add k) (by rw [block_of_add]; exact had)).trans hc1
      replace hc2 := (HB.out.cell (p := ad.add q) (by rw [block_of_add]; exact had)).trans hc2
      have hkI : (k : Int) < (n : Int) := by omega
      have hqI : (q : Int) < (n : Int) := by rw [← HXL.out]; omega
      have hq0 : decide ((q : Int) < 0) = false := decide_eq_false (by omega)
      have hq1 : decide ((k : Int) < (q : Int)) = false := decide_eq_false (by omega)
      have hqne : ((q : Int) != (q : Int)) = false := by simp
      have hk0 : (0 : Int) ≤ (k : Int) := by omega
      have hq00 : (0 : Int) ≤ (q : Int) := by omega
      clear hq hqq hq2
      go_wp2_with fail
      go_quiet (fail)
      go_wp2
      go_roundw
      case rel => exact ⟨k + 1, by omega, by go_num, HB.out.trans (below_drewN _ _ _)⟩
      case measure => simp [intOf]; omega
    · obtain rfl : n = k := by omega
      go_wp2
      go_ret
      exact ⟨rfl, HB.out⟩
def clsN (xs : List Int) (k : Nat) : Nat := ((List.range k).filter fun (i : Nat) => valAt xs (i : Int) == (i : Int)).length
set_option maxRecDepth 20000 in
set_option maxHeartbeats 2000000 in
theorem classes_any (A : Option Addr) (n c : Nat) (xs : List Int) (w : World) (h : ReadI w w.heap.size A n xs) (hn : n ≤ 1000000) :
    Calls Tryd.prog 41 #[.slice A n c] w fun e w' => e = .returned (.int .i64 (clsN xs n)) ∧ Below w.heap.size w w' := by
  have hxl := h.len
  have H := Lib.hid h; have HXL := Lib.hid hxl
  clear h hxl
  go_enter Tryd.func41, Tryd.ntmps41
  go_wp2
  go_loopw [3, 4] (fun v i wr => ∃ k : Nat, k ≤ n ∧ i = .int .i64 k ∧ v = .int .i64 ((clsN xs k : Nat) : Int) ∧ Below w.heap.size w wr) (fun _ i _ => n - (intOf i).toNat)
  case atStart => exact ⟨0, by omega, rfl, rfl, Below.refl _ _⟩
  case round =>
    obtain ⟨k, hk, rfl, rfl, hb⟩ := hrel
    have HB := Lib.hid hb
    clear hb
    have hle : clsN xs k ≤ k := by unfold clsN; exact filter_range_len _ k
    by_cases hlt : k < n
    · have hkx : k < xs.length := by rw [HXL.out]; exact hlt
      obtain ⟨ad, rfl, had, hc1⟩ := ReadI.at_ (k := k) H.out hkx
      replace hc1 := (HB.out.cell (p := ad.add k) (by rw [block_of_add]; exact had)).trans hc1
      have hst : clsN xs (k + 1) = clsN xs k + if (xs[k] == (k : Int)) = true then 1 else 0 := by
        unfold clsN
        rw [filter_range_succ, List.length_append, valAt_get hkx]
        by_cases e : (xs[k] == (k : Int)) = true
        · rw [if_pos e, if_pos e]; rfl
        · rw [if_neg e, if_neg e]; rfl
      generalize xs[k] = x at *
      have hkI : (k : Int) < (n : Int) := by omega
      obtain ⟨q, hq⟩ : ∃ q, clsN xs k = q := ⟨_, rfl⟩
      rw [hq] at hst hle ⊢
      have HST := Lib.hid hst
      clear hst hq
      by_cases e : x = (k : Int)
      · have HE := Lib.hid e
        subst e
        go_wp2
        go_roundw
        case rel => exact ⟨k + 1, by omega, by go_num, by rw [HST.out, if_pos (by simp)]; go_num, HB.out⟩
        case measure => simp [intOf]; omega
      · have eB : (x == (k : Int)) = false := beq_false_of_ne e
        have HE := Lib.hid eB
        go_wp2
        go_roundw
        case rel => exact ⟨k + 1, by omega, by go_num, by rw [HST.out, HE.out]; rfl, HB.out⟩
        case measure => simp [intOf]; omega
    · obtain rfl : n = k := by omega
      go_wp2
      go_ret
      exact ⟨rfl, HB.out⟩
set_option maxRecDepth 20000 in
theorem share_any (x y : Int) (n : Nat) (w : World) (h1 : 1 ≤ y) (h2 : y ≤ n) (h3 : 0 ≤ x) (h4 : x ≤ y) :
    Calls Tryd.prog 38 #[.agg #[.int .i64 x, .int .i64 y], .int .i64 n] w fun e w' => e = .returned (.bool true) ∧ Below w.heap.size w w' := by
  have HB := Lib.hid ((Below.refl w.heap.size w).alloc (Nat.le_refl _) (.cells #[.int .i64 x, .int .i64 y] 37))
  go_enter Tryd.func38, Tryd.ntmps38
  go_wp2
  go_ret
  exact ⟨rfl, HB.out⟩
end Go.Proofs.YtgimhjkijpcgjaaDoor
namespace Go.Proofs.YtgimhjkijpcgjaaDoor
open Go.RowKit Go.Lib

theorem lbI_len (n : Nat) (es : List (Nat × Nat)) : (lbI n es).length = n := by simp [lbI]
theorem lbI_lab {n : Nat} {es : List (Nat × Nat)} (h : ∀ e ∈ es, e.1 < n ∧ e.2 < n) : LabI (lbI n es) := fun i hi => by
  rw [lbI_len] at hi
  have hL := lbF_lab h
  have hle := hL.le i hi
  refine ⟨lbF es n i, hle, ?_, ?_⟩
  · have := lbI_get (es := es) hi
    rw [List.getElem?_eq_getElem (by rw [lbI_len]; exact hi)] at this
    injection this
  · rw [lbI_get (by omega), hL.self hi]
theorem reg_again {R : List Rd} {vs : List Int} {N : Nat} (hok : ∀ x ∈ R, Okr N x) : ∀ x ∈ R, cutB (lbI N (regE R vs)) x = cutB vs x := fun x hx => by
  obtain ⟨a0, a1, b0, b1, _, _, _⟩ := hok x hx
  have h1 := lbI_val (es := regE R vs) (show x.1.toNat < N by omega)
  have h2 := lbI_val (es := regE R vs) (show x.2.1.toNat < N by omega)
  rw [Int.toNat_of_nonneg a0] at h1
  rw [Int.toNat_of_nonneg b0] at h2
  rw [show cutB vs x = _ from reg_cut hok hx]
  unfold cutB
  rw [h1, h2]
  congr 1
  rw [Bool.eq_iff_iff]; simp; omega
theorem openE_congr {R : List Rd} {p q : Rd → Bool} (h : ∀ x ∈ R, p x = q x) : openE R p = openE R q := by
  unfold openE
  rw [List.filter_congr h]
theorem reg_twice {R : List Rd} {vs : List Int} {N : Nat} (hok : ∀ x ∈ R, Okr N x) : lbI N (regE R (lbI N (regE R vs))) = lbI N (regE R vs) := by
  have : regE R (lbI N (regE R vs)) = regE R vs := openE_congr fun x hx => by rw [reg_again hok x hx]
  rw [this]
theorem cuts_twice {R : List Rd} {vs : List Int} {N : Nat} (hok : ∀ x ∈ R, Okr N x) : cutsL R (lbI N (regE R vs)) = cutsL R vs := by
  unfold cutsL
  refine List.filter_congr fun i hi => ?_
  have hi' : i < R.length := List.mem_range.1 hi
  rw [rdAt_get hi']
  exact reg_again hok _ (List.getElem_mem hi')
theorem filter_split (p : Nat → Bool) {j n : Nat} (h : j ≤ n) : (List.range n).filter p = (List.range j).filter p ++ (List.range' j (n - j)).filter p := by
  have e := List.range'_append_1 (s := 0) (m := j) (n := n - j)
  rw [Nat.zero_add, Nat.add_sub_cancel' h] at e
  rw [← List.filter_append, List.range_eq_range', List.range_eq_range', e]
/-- The one that comes next among those that are picked. -/
theorem pick_next (p : Nat → Bool) {j n : Nat} (h : j < n) (hp : p j = true) : ((List.range n).filter p)[((List.range j).filter p).length]? = some j := by
  rw [filter_split p (Nat.le_of_lt h), List.getElem?_append_right (Nat.le_refl _), Nat.sub_self]
  obtain ⟨k, hk⟩ : ∃ k, n - j = k + 1 := ⟨n - j - 1, by omega⟩
  rw [hk, List.range'_succ, List.filter_cons_of_pos hp]; rfl
theorem pick_not (p : Nat → Bool) {j n : Nat} (h : j < n) (hp : p j = false) {q : Nat} (hq : ((List.range n).filter p)[((List.range j).filter p).length]? = some q) : q ≠ j := by
  rw [filter_split p (Nat.le_of_lt h), List.getElem?_append_right (Nat.le_refl _), Nat.sub_self] at hq
  have h2 := (List.mem_filter.1 (List.mem_of_getElem? hq)).2
  intro e
  rw [e, hp] at h2; cases h2
theorem low_mul (x y : Nat) : lowN x y * y = lowD x y * x := by
  unfold lowN lowD
  rcases Nat.eq_zero_or_pos (Nat.gcd x y) with h | h
  · rw [h]; simp
  · have e1 : x / Nat.gcd x y * y = x * y / Nat.gcd x y := Nat.div_mul_right_comm (Nat.gcd_dvd_left x y) y
    have e2 : y / Nat.gcd x y * x = y * x / Nat.gcd x y := Nat.div_mul_right_comm (Nat.gcd_dvd_right x y) x
    rw [e1, e2, Nat.mul_comm]
theorem lowD_pos {x y : Nat} (hy : 0 < y) : 1 ≤ lowD x y := by
  unfold lowD
  exact Nat.div_pos (Nat.le_of_dvd hy (Nat.gcd_dvd_right x y)) (Nat.gcd_pos_of_pos_right _ hy)
theorem cmp_good {om : Option Pts} {vs : List Int} (h0 : chkN (lenO om) [vs] = 0) (hR : (roadsO om).length ≤ 512) : ∃ x y : Nat, cmpA om vs = .agg #[.int .i64 x, .int .i64 y] ∧ 1 ≤ y ∧ x ≤ 512 ∧ y ≤ 512 ∧ x * (roadsO om).length = y * ((roadsO om).length - (cutsL (roadsO om) vs).length) := by
  unfold cmpA
  rw [if_pos h0]
  by_cases hz : (roadsO om).length = 0
  · rw [if_pos hz, hz]
    exact ⟨1, 1, rfl, by omega, by omega, by omega, by omega⟩
  · rw [if_neg hz]
    refine ⟨_, _, rfl, lowD_pos (by omega), ?_, ?_, low_mul _ _⟩
    · unfold lowN; exact Nat.le_trans (Nat.div_le_self _ _) (by omega)
    · unfold lowD; exact Nat.le_trans (Nat.div_le_self _ _) hR
end Go.Proofs.YtgimhjkijpcgjaaDoor
