/-
  layer 37: lowest of the program, Lowest of the reference: a fraction in lowest terms. Conditions: numbers from 0 and from 1 on, at most 1,000,000.
-/
import Derived.Test.YtgimhjkijpcgjaaDoorIsC
import Derived.Deep.QuietTactic
namespace Go.Proofs.YtgimhjkijpcgjaaDoor
open Go.RowKit Go.Lib

def lowN (n d : Nat) : Nat := n / Nat.gcd n d
def lowD (n d : Nat) : Nat := d / Nat.gcd n d
abbrev fracA (n d : Nat) : Value := .agg #[.int .i64 ((lowN n d : Nat) : Int), .int .i64 ((lowD n d : Nat) : Int)]
abbrev fracZ : Value := .agg #[.int .i64 0, .int .i64 0]
theorem frac_ret {fn : Func} {p : Tmp} (h : fn.results = #[.cell p 37]) (tmps : Array Value) (w : World) (g : Nat) (cs : Array Value) (hp : tmps.getD p undef = .pointer (some ⟨g, 0, none⟩)) (hg : Blk w g 37 cs) (hs : cs.size = 2 := by rfl) :
    (results fn tmps).run Tryd.prog w = .ok (.agg cs) w :=
  results_cell_row h tmps w g 37 cs (0, 0) _ hp hg Tryd.underlying37 rfl (by rw [hs]; kernel_rfl)
theorem frac_ret2 {fn : Func} {p q : Tmp} (h : fn.results = #[.cell p 37, .tmp q]) (tmps : Array Value) (w : World) (g : Nat) (cs : Array Value) (hp : tmps.getD p undef = .pointer (some ⟨g, 0, none⟩)) (hg : Blk w g 37 cs) (hs : cs.size = 2 := by rfl) :
    (results fn tmps).run Tryd.prog w = .ok (.tuple #[.agg cs, tmps.getD q undef]) w := by
  have hp' : tmps[p]?.getD undef = .pointer (some ⟨g, 0, none⟩) := by simpa using hp
  simp [results, h, hp', asAddr, run_loadVar_row w g 37 37 cs (0, 0) _ hg Tryd.underlying37 rfl (by rw [hs]; kernel_rfl)]
set_option maxRecDepth 20000 in
set_option maxHeartbeats 2000000 in
theorem lowest_any (n d : Nat) (w : World) (hd : 0 < d) (hn : n ≤ 1000000) (hd2 : d ≤ 1000000) :
    Calls Tryd.prog 54 #[.int .i64 n, .int .i64 d] w fun e w' => e = .returned (fracA n d) ∧ Below w.heap.size w w' := by
  have hz := Blk.new w 37 #[.int .i64 0, .int .i64 0]
  have hg0 : 0 < Nat.gcd n d := Nat.gcd_pos_of_pos_right _ hd
  have hgn : Nat.gcd n d ≤ d := Nat.gcd_le_right _ hd
  have HB := Lib.hid ((Below.refl _ w).alloc (Nat.le_refl _) (.cells #[.int .i64 0, .int .i64 0] 37))
  have HZ := Lib.hid hz
  unfold fracA lowN lowD
  clear hz
  go_enter Tryd.func54, Tryd.ntmps54
  go_wp2
  go_loopw [5, 6] (fun x y wr => ∃ a b : Nat, x = .int .i64 a ∧ y = .int .i64 b ∧ Nat.gcd a b = Nat.gcd n d ∧ a ≤ 1000000 ∧ b ≤ 1000000 ∧ Below w.heap.size w wr ∧ Blk wr w.heap.size 37 #[.int .i64 0, .int .i64 0]) (fun _ y _ => (intOf y).toNat)
  case atStart => exact ⟨n, d, rfl, rfl, rfl, hn, hd2, HB.out, HZ.out⟩
  case round =>
    obtain ⟨a, b, rfl, rfl, hg, ha, hb2, hb, hk⟩ := hrel
    have HBx := Lib.hid hb; have HK := Lib.hid hk; have HG := Lib.hid hg
    clear hb hk hg HB HZ
    rcases Nat.eq_zero_or_pos b with h0 | h0
    · subst h0
      have hgg := HG.out
      rw [Nat.gcd_zero_right] at hgg
      subst hgg
      have hx : (0 : Int) < (Nat.gcd n d : Int) := by omega
      have c0 := HK.out.cell 0
      have c1 := HK.out.cell 1
      have f0 := HK.out.frozen 0
      have f1 := HK.out.frozen 1
      simp only [List.getElem?_toArray, List.getElem?_cons_zero, List.getElem?_cons_succ] at c0 c1
      have hq1 : wrap64 ((n : Int) / ((Nat.gcd n d : Nat) : Int)) = ((n / Nat.gcd n d : Nat) : Int) := by
        have h1 : n / Nat.gcd n d ≤ n := Nat.div_le_self _ _
        rw [← Int.natCast_ediv]; generalize n / Nat.gcd n d = q at *; unfold wrap64; omega
      have hq2 : wrap64 ((d : Int) / ((Nat.gcd n d : Nat) : Int)) = ((d / Nat.gcd n d : Nat) : Int) := by
        have h1 : d / Nat.gcd n d ≤ d := Nat.div_le_self _ _
        rw [← Int.natCast_ediv]; generalize d / Nat.gcd n d = q at *; unfold wrap64; omega
      have HQ1 := Lib.hid hq1; have HQ2 := Lib.hid hq2
      clear hq1 hq2
      go_wp2
      go_region
      go_wp2
      rw [HQ1.out, HQ2.out]
      have k1 : Blk _ w.heap.size 37 #[.int .i64 ((n / Nat.gcd n d : Nat) : Int), .int .i64 ((d / Nat.gcd n d : Nat) : Int)] := ((HK.out.set_ 0 (.int .i64 ((n / Nat.gcd n d : Nat) : Int))).set_ 1 (.int .i64 ((d / Nat.gcd n d : Nat) : Int))).drew
      refine bodyPost_ret (frac_ret rfl _ _ w.heap.size _ (by simp) k1) rfl ?_
      exact ⟨rfl, ((HBx.out.setCell (p := ⟨w.heap.size, 0, none⟩) (Nat.le_refl _) _).setCell (p := ⟨w.heap.size, 1, none⟩) (Nat.le_refl _) _).drew⟩
    · have hbI : ¬ (b : Int) = 0 := by omega
      have hbB : ((b : Int) != 0) = true := by simp; omega
      have HG2 : Hid (Nat.gcd b (a % b) = Nat.gcd n d) := Lib.hid (by rw [← HG.out, Nat.gcd_comm a b, Nat.gcd_rec b a, Nat.gcd_comm])
      have hlt := Nat.mod_lt a h0
      go_wp2
      go_region
      go_wp2
      go_roundw
      case rel => exact ⟨b, a % b, rfl, by rw [Int.natCast_emod], HG2.out, hb2, by omega, HBx.out.drew, HK.out.drew⟩
      case measure => simp [intOf]; omega
set_option maxRecDepth 20000 in
set_option maxHeartbeats 2000000 in
theorem refLowest_any (n d : Nat) (w : World) (hd : 0 < d) (hn : n ≤ 1000000) (hd2 : d ≤ 1000000) :
    Calls Tryd.prog 55 #[.int .i64 n, .int .i64 d] w fun e w' => e = .returned (fracA n d) ∧ Below w.heap.size w w' := by
  have hz := Blk.new w 37 #[.int .i64 0, .int .i64 0]
  have hg0 : 0 < Nat.gcd n d := Nat.gcd_pos_of_pos_right _ hd
  have hgn : Nat.gcd n d ≤ d := Nat.gcd_le_right _ hd
  have HB := Lib.hid ((Below.refl _ w).alloc (Nat.le_refl _) (.cells #[.int .i64 0, .int .i64 0] 37))
  have HZ := Lib.hid hz
  unfold fracA lowN lowD
  clear hz
  go_enter Tryd.func55, Tryd.ntmps55
  go_wp2
  go_loopw [5, 6] (fun x y wr => ∃ a b : Nat, x = .int .i64 a ∧ y = .int .i64 b ∧ Nat.gcd a b = Nat.gcd n d ∧ a ≤ 1000000 ∧ b ≤ 1000000 ∧ Below w.heap.size w wr ∧ Blk wr w.heap.size 37 #[.int .i64 0, .int .i64 0]) (fun _ y _ => (intOf y).toNat)
  case atStart => exact ⟨n, d, rfl, rfl, rfl, hn, hd2, HB.out, HZ.out⟩
  case round =>
    obtain ⟨a, b, rfl, rfl, hg, ha, hb2, hb, hk⟩ := hrel
    have HBx := Lib.hid hb; have HK := Lib.hid hk; have HG := Lib.hid hg
    clear hb hk hg HB HZ
    rcases Nat.eq_zero_or_pos b with h0 | h0
    · subst h0
      have hgg := HG.out
      rw [Nat.gcd_zero_right] at hgg
      subst hgg
      have hx : (0 : Int) < (Nat.gcd n d : Int) := by omega
      have c0 := HK.out.cell 0
      have c1 := HK.out.cell 1
      have f0 := HK.out.frozen 0
      have f1 := HK.out.frozen 1
      simp only [List.getElem?_toArray, List.getElem?_cons_zero, List.getElem?_cons_succ] at c0 c1
      have hq1 : wrap64 ((n : Int) / ((Nat.gcd n d : Nat) : Int)) = ((n / Nat.gcd n d : Nat) : Int) := by
        have h1 : n / Nat.gcd n d ≤ n := Nat.div_le_self _ _
        rw [← Int.natCast_ediv]; generalize n / Nat.gcd n d = q at *; unfold wrap64; omega
      have hq2 : wrap64 ((d : Int) / ((Nat.gcd n d : Nat) : Int)) = ((d / Nat.gcd n d : Nat) : Int) := by
        have h1 : d / Nat.gcd n d ≤ d := Nat.div_le_self _ _
        rw [← Int.natCast_ediv]; generalize d / Nat.gcd n d = q at *; unfold wrap64; omega
      have HQ1 := Lib.hid hq1; have HQ2 := Lib.hid hq2
      clear hq1 hq2
      go_wp2
      go_region
      go_wp2
      rw [HQ1.out, HQ2.out]
      have k1 : Blk _ w.heap.size 37 #[.int .i64 ((n / Nat.gcd n d : Nat) : Int), .int .i64 ((d / Nat.gcd n d : Nat) : Int)] := ((HK.out.set_ 0 (.int .i64 ((n / Nat.gcd n d : Nat) : Int))).set_ 1 (.int .i64 ((d / Nat.gcd n d : Nat) : Int))).drew
      refine bodyPost_ret (frac_ret rfl _ _ w.heap.size _ (by simp) k1) rfl ?_
      exact ⟨rfl, ((HBx.out.setCell (p := ⟨w.heap.size, 0, none⟩) (Nat.le_refl _) _).setCell (p := ⟨w.heap.size, 1, none⟩) (Nat.le_refl _) _).drew⟩
    · have hbI : ¬ (b : Int) = 0 := by omega
      have hbB : ((b : Int) != 0) = true := by simp; omega
      have HG2 : Hid (Nat.gcd b (a % b) = Nat.gcd n d) := Lib.hid (by rw [← HG.out, Nat.gcd_comm a b, Nat.gcd_rec b a, Nat.gcd_comm])
      have hlt := Nat.mod_lt a h0
      go_wp2
      go_region
      go_wp2
      go_roundw
      case rel => exact ⟨b, a % b, rfl, by rw [Int.natCast_emod], HG2.out, hb2, by omega, HBx.out.drew, HK.out.drew⟩
      case measure => simp [intOf]; omega
end Go.Proofs.YtgimhjkijpcgjaaDoor
namespace Go.Proofs.YtgimhjkijpcgjaaDoor
open Go.RowKit Go.Lib

def difN (l : List (List Int)) (a b : Int) : Nat := bundN l (a, b, 0)
set_option maxRecDepth 20000 in
set_option maxHeartbeats 1000000 in
theorem differP_any (A : Option Addr) (m c : Nat) (l : List (List Int)) (a b : Int) (w : World) (h : ReadII w w.heap.size A m l) (hx : ∀ vs ∈ l, InR vs.length (a, b, 0)) (hm : m ≤ 1000000) :
    Calls Tryd.prog 58 #[.slice A m c, .int .i64 a, .int .i64 b] w fun e w' => e = .returned (.int .i64 (difN l a b : Nat)) ∧ Below w.heap.size w w' := by
  have hb := bundle_any (a, b, 0) A m c l w h hx hm
  show Calls _ _ _ _ fun e w' => e = .returned (.int .i64 (bundN l (a, b, 0) : Nat)) ∧ Below w.heap.size w w'
  generalize bundN l (a, b, 0) = N at *
  clear h hx
  go_enter Tryd.func58, Tryd.ntmps58
  go_wp2_with fail
  refine hb.mono ?_
  rintro e w' ⟨rfl, hb2⟩
  go_wp2
  go_ret
  exact ⟨rfl, hb2⟩
set_option maxRecDepth 20000 in
set_option maxHeartbeats 2000000 in
theorem refDiffer_any (A : Option Addr) (m c : Nat) (l : List (List Int)) (a b : Int) (w : World) (h : ReadII w w.heap.size A m l) (hx : ∀ vs ∈ l, InR vs.length (a, b, 0)) (hm : m ≤ 1000000) :
    Calls Tryd.prog 60 #[.slice A m c, .int .i64 a, .int .i64 b] w fun e w' => e = .returned (.int .i64 (difN l a b : Nat)) ∧ Below w.heap.size w w' := by
  show Calls _ _ _ _ fun e w' => e = .returned (.int .i64 (bundN l (a, b, 0) : Nat)) ∧ Below w.heap.size w w'
  have hml := h.1
  have H := Lib.hid h; have HX := Lib.hid hx; have HML := Lib.hid hml
  clear h hx hml
  go_enter Tryd.func60, Tryd.ntmps60
  go_wp2
  go_loopw [7, 8] (fun v i wr => ∃ j : Nat, j ≤ m ∧ i = .int .i64 j ∧ v = .int .i64 (bundN (l.take j) (a, b, 0) : Nat) ∧ Below w.heap.size w wr) (fun _ i _ => m - (intOf i).toNat)
  case atStart => exact ⟨0, by omega, rfl, rfl, Below.refl _ _⟩
  case round =>
    obtain ⟨j, hj, rfl, rfl, hb⟩ := hrel
    have HB := Lib.hid hb
    clear hb
    by_cases hlt : j < m
    · have hjl : j < l.length := by rw [HML.out]; exact hlt
      have hst := bundN_step l (a, b, 0) hjl
      obtain ⟨ad, A', c', rfl, hcell, hlt2, hR, hc1, hc2⟩ := H.out.2 j hjl
      have hcw := (HB.out.cell hlt2).trans hcell
      obtain ⟨a0, a1, b0, b1⟩ := HX.out _ (List.getElem_mem hjl)
      simp only at a0 a1 b0 b1
      obtain ⟨ka, rfl⟩ : ∃ k : Nat, a = k := ⟨a.toNat, by omega⟩
      obtain ⟨kb, rfl⟩ : ∃ k : Nat, b = k := ⟨b.toNat, by omega⟩
      have hka : ka < l[j].length := by omega
      have hkb : kb < l[j].length := by omega
      obtain ⟨ad', rfl, had', hva, hvb⟩ := readI_two hR hka hkb
      replace hva := (HB.out.cell (p := ad'.add ka) (by rw [block_of_add]; exact had')).trans hva
      replace hvb := (HB.out.cell (p := ad'.add kb) (by rw [block_of_add]; exact had')).trans hvb
      rw [cut_nat l[j] 0 hka hkb] at hst
      have hle : bundN (l.take j) ((ka : Int), (kb : Int), 0) ≤ 1000000 := by
        have := bundN_le (l.take j) ((ka : Int), (kb : Int), 0)
        rw [List.length_take] at this
        omega
      have hkaI : (ka : Int) < (l[j].length : Int) := by omega
      have hkbI : (kb : Int) < (l[j].length : Int) := by omega
      have hltI : (j : Int) < (m : Int) := by omega
      have HST := Lib.hid hst
      generalize bundN (l.take j) ((ka : Int), (kb : Int), 0) = N at *
      generalize l[j][ka] = va at *
      generalize l[j][kb] = vb at *
      generalize l[j].length = len at *
      clear hst hR hcell
      by_cases hv : va = vb
      · have hv1 : (va != vb) = false := by simp [hv]
        have HV := Lib.hid hv
        clear hv
        go_wp2
        go_region
        go_wp2
        go_roundw
        case rel => exact ⟨j + 1, by omega, by go_num, by rw [HST.out, HV.out]; simp, HB.out.drew⟩
        case measure => simp [intOf]; omega
      · have hv1 : (va != vb) = true := by simp [hv]
        have HV := Lib.hid hv
        clear hv
        go_wp2
        go_region
        go_wp2
        go_roundw
        case rel => exact ⟨j + 1, by omega, by go_num, by rw [HST.out]; simp [HV.out], HB.out.drew⟩
        case measure => simp [intOf]; omega
    · obtain rfl : j = m := by omega
      rw [List.take_of_length_le (by rw [HML.out]; exact Nat.le_refl _)]
      go_wp2
      go_ret
      exact ⟨rfl, HB.out⟩
end Go.Proofs.YtgimhjkijpcgjaaDoor
namespace Go.Proofs.YtgimhjkijpcgjaaDoor
open Go.RowKit Go.Lib

def len0 (l : List (List Int)) : Nat := (l.head?.map List.length).getD 0
theorem len0_get {l : List (List Int)} (h : 0 < l.length) : l[0].length = len0 l := by cases l with
  | nil => simp at h
  | cons x l => rfl
def rngB (n : Nat) (a b : Int) : Bool := decide (a < 0) || (decide ((n : Int) ≤ a) || (decide (b < 0) || decide ((n : Int) ≤ b)))
def difE (l : List (List Int)) (a b : Int) : Int := if 256 < l.length then 12 else if l.any (fun vs => !(vs.length == len0 l)) = true then 2 else if rngB (len0 l) a b = true then 3 else 0
def difA (l : List (List Int)) (a b : Int) : Value := if difE l a b = 0 then fracA (difN l a b) l.length else fracZ
def FracE (w : World) (v : Value) (E : Int) (e : Ending) (w' : World) : Prop := e = .returned (.tuple #[v, .int .i64 E]) ∧ Below w.heap.size w w'
theorem rng_false {n : Nat} {a b : Int} (h : rngB n a b = false) : 0 ≤ a ∧ a < n ∧ 0 ≤ b ∧ b < n := by
  unfold rngB at h
  simp only [Bool.or_eq_false_iff, decide_eq_false_iff_not] at h
  omega
theorem difE_zero {l : List (List Int)} {a b : Int} (h : difE l a b = 0) : l.length ≤ 256 ∧ (∀ vs ∈ l, vs.length = len0 l) ∧ (0 ≤ a ∧ a < (len0 l : Nat) ∧ 0 ≤ b ∧ b < (len0 l : Nat)) ∧ 0 < l.length := by
  unfold difE at h
  split at h
  · omega
  split at h
  · omega
  split at h
  · omega
  rename_i h1 h2 h3
  have h4 : l.any (fun vs => !(vs.length == len0 l)) = false := by simpa using h2
  have h5 := rng_false (by simpa using h3)
  refine ⟨by omega, fun vs hv => by simpa using List.any_eq_false.1 h4 vs hv, h5, ?_⟩
  rcases Nat.eq_zero_or_pos l.length with h0 | h0
  · obtain rfl := List.eq_nil_of_length_eq_zero h0
    have : len0 [] = 0 := rfl
    omega
  · exact h0
set_option maxRecDepth 20000 in
set_option maxHeartbeats 4000000 in
theorem differFP_any (A : Option Addr) (m c : Nat) (l : List (List Int)) (a b : Int) (w : World) (h : ReadII w w.heap.size A m l) :
    Calls Tryd.prog 30 #[.slice A m c, .int .i64 a, .int .i64 b] w (FracE w (difA l a b) (difE l a b)) := by
  have hml := h.1
  have hz := Blk.new w 37 #[.int .i64 0, .int .i64 0]
  have hbz := (Below.refl _ w).alloc (Nat.le_refl _) (.cells #[.int .i64 0, .int .i64 0] 37)
  have c0 := hz.cell 0
  have c1 := hz.cell 1
  have f0 := hz.frozen 0
  have f1 := hz.frozen 1
  simp only [List.getElem?_toArray, List.getElem?_cons_zero, List.getElem?_cons_succ] at c0 c1
  have H := Lib.hid h; have HML := Lib.hid hml; have HZ := Lib.hid hz; have HBZ := Lib.hid hbz
  clear h hml hz hbz
  unfold FracE
  by_cases h1 : 256 < m
  · have hE : difE l a b = 12 := by unfold difE; rw [if_pos (by rw [HML.out]; exact h1)]
    have hA : difA l a b = fracZ := by unfold difA; rw [hE]; rfl
    rw [hE, hA]
    have h1I : (256 : Int) < (m : Int) := by omega
    go_enter Tryd.func30, Tryd.ntmps30
    go_wp2
    refine bodyPost_ret (frac_ret2 rfl _ _ w.heap.size _ (by simp) HZ.out) rfl ?_
    exact ⟨rfl, HBZ.out⟩
  · have h1I : ¬ (256 : Int) < (m : Int) := by omega
    have HE : Hid (∀ q, (l.any fun vs => !(vs.length == len0 l)) = q → difE l a b = if q = true then 2 else if rngB (len0 l) a b = true then 3 else 0) := Lib.hid (fun q hq => by unfold difE; rw [if_neg (by rw [HML.out]; exact h1), hq])
    have HF : Hid (difA l a b = if difE l a b = 0 then fracA (difN l a b) l.length else fracZ) := Lib.hid rfl
    generalize difA l a b = vA at *
    generalize difE l a b = vE at *
    go_enter Tryd.func30, Tryd.ntmps30
    go_wp2
    clear c0 c1 f0 f1
    go_loopw [8, 17] (fun n i wr => ∃ j : Nat, j ≤ m ∧ i = .int .i64 j ∧ n = .int .i64 ((if j = 0 then 0 else len0 l : Nat) : Int) ∧ ((l.take j).any fun vs => !(vs.length == len0 l)) = false ∧ Below w.heap.size w wr ∧ Blk wr w.heap.size 37 #[.int .i64 0, .int .i64 0]) (fun _ i _ => m - (intOf i).toNat)
    case atStart => exact ⟨0, by omega, rfl, rfl, rfl, HBZ.out, HZ.out⟩
    case round =>
      obtain ⟨j, hj, rfl, rfl, hf, hb, hk⟩ := hrel
      have HFF := Lib.hid hf; have HB := Lib.hid hb; have HK := Lib.hid hk
      clear hf hb hk HZ HBZ
      by_cases hlt : j < m
      · have hjl : j < l.length := by rw [HML.out]; exact hlt
        obtain ⟨ad, A', c', rfl, hcell, hlt2, hR, hc1, hc2⟩ := H.out.2 j hjl
        have hcw := (HB.out.cell hlt2).trans hcell
        have hltI : (j : Int) < (m : Int) := by omega
        clear hR hcell
        rcases Nat.eq_zero_or_pos j with h0 | h0
        · subst h0
          have hl0 := len0_get (by rw [HML.out]; exact hlt)
          rw [hl0] at hcw
          have hcw0 : wr.cell? ad = _ := hcw
          have HN := Lib.hid (any_take_step hjl HFF.out hl0)
          clear hl0 hc1
          have hnB : (((len0 l : Nat) : Int) != ((len0 l : Nat) : Int)) = false := by simp
          go_wp2
          go_roundw
          case rel => exact ⟨0 + 1, by omega, by go_num, by simp, HN.out, HB.out, HK.out⟩
          case measure => simp [intOf]; omega
        · have hj0 : ¬ (j : Int) = 0 := by omega
          have hjB : ((j : Int) == 0) = false := beq_false_of_ne hj0
          have hjn : ¬ j = 0 := by omega
          by_cases hn : l[j].length = len0 l
          · have HN := Lib.hid (any_take_step hjl HFF.out hn)
            rw [hn] at hcw
            clear hn hc1
            have hnB : (((len0 l : Nat) : Int) != ((len0 l : Nat) : Int)) = false := by simp
            rw [if_neg hjn]
            go_wp2
            go_roundw
            case rel => exact ⟨j + 1, by omega, by go_num, by simp, HN.out, HB.out, HK.out⟩
            case measure => simp [intOf]; omega
          · have hnB : ((l[j].length : Int) != ((len0 l : Nat) : Int)) = true := by rw [bne, beq_false_of_ne (by omega)]; rfl
            have HA : Hid ((l.any fun vs => !(vs.length == len0 l)) = true) := Lib.hid (List.any_eq_true.2 ⟨_, List.getElem_mem hjl, by simp [hn]⟩)
            generalize l[j].length = k at *
            have c0 := HK.out.cell 0
            have c1 := HK.out.cell 1
            have f0 := HK.out.frozen 0
            have f1 := HK.out.frozen 1
            simp only [List.getElem?_toArray, List.getElem?_cons_zero, List.getElem?_cons_succ] at c0 c1
            rw [if_neg hjn]
            have k1 : Blk ((wr.setCell ⟨w.heap.size, 0, none⟩ (.int .i64 0)).setCell ⟨w.heap.size, 1, none⟩ (.int .i64 0)) w.heap.size 37 #[.int .i64 0, .int .i64 0] := (HK.out.set_ 0 (.int .i64 0)).set_ 1 (.int .i64 0)
            have HK1 := Lib.hid k1
            clear k1
            go_wp2
            refine bodyPost_ret (frac_ret2 rfl _ _ w.heap.size _ (by simp) HK1.out) rfl ?_
            have hE := HE.out _ HA.out
            rw [if_pos rfl] at hE
            refine ⟨?_, ((HB.out.setCell (p := ⟨w.heap.size, 0, none⟩) (Nat.le_refl _) _).setCell (p := ⟨w.heap.size, 1, none⟩) (Nat.le_refl _) _)⟩
            rw [HF.out, hE]; rfl
      · obtain rfl : m = j := by omega
        have HA : Hid ((l.any fun vs => !(vs.length == len0 l)) = false) := Lib.hid (by have := HFF.out; rwa [List.take_of_length_le (by rw [HML.out]; exact Nat.le_refl _)] at this)
        have hE := HE.out _ HA.out
        rw [if_neg (by simp)] at hE
        have hif : (if m = 0 then 0 else len0 l) = len0 l := by
          split
          · rename_i e
            subst e
            obtain rfl := List.eq_nil_of_length_eq_zero HML.out
            rfl
          · rfl
        rw [hif]
        have c0 := HK.out.cell 0
        have c1 := HK.out.cell 1
        have f0 := HK.out.frozen 0
        have f1 := HK.out.frozen 1
        simp only [List.getElem?_toArray, List.getElem?_cons_zero, List.getElem?_cons_succ] at c0 c1
        have hall : ∀ vs ∈ l, vs.length = len0 l := fun vs hv => by simpa using List.any_eq_false.1 HA.out vs hv
        have HE2 := Lib.hid hE
        cases hr : rngB (len0 l) a b
        · obtain ⟨a0, a1, b0, b1⟩ := rng_false hr
          have hl0 : 0 < m := by
            rcases Nat.eq_zero_or_pos m with e | e
            · subst e
              obtain rfl := List.eq_nil_of_length_eq_zero HML.out
              have : len0 [] = 0 := rfl
              omega
            · exact e
          have hm3 : m ≤ 1000000 := by omega
          have hdf := differP_any A m c l a b _ (H.out.later HB.out) (fun vs hv => by rw [hall vs hv]; exact ⟨a0, a1, b0, b1⟩) hm3
          have hle : difN l a b ≤ m := by have := bundN_le l (a, b, 0); rw [HML.out] at this; exact this
          have hlo := fun W => lowest_any (difN l a b) m W hl0 (by omega) hm3
          have HV : Hid (vE = 0 ∧ vA = fracA (difN l a b) m) := Lib.hid (by
            have := HE2.out
            rw [hr, if_neg (by simp)] at this
            exact ⟨this, by rw [HF.out, this, if_pos rfl, HML.out]⟩)
          have HLO := Lib.hid hlo
          have g0 : decide (a < 0) = false := decide_eq_false (by omega)
          have g1 : decide (((len0 l : Nat) : Int) ≤ a) = false := decide_eq_false (by omega)
          have g2 : decide (b < 0) = false := decide_eq_false (by omega)
          have g3 : decide (((len0 l : Nat) : Int) ≤ b) = false := decide_eq_false (by omega)
          clear hr hE hif hall hlo HE HE2 HF HA HFF c0 c1 f0 f1
          generalize difN l a b = dn at *
          generalize len0 l = n0 at *
          go_wp2_with fail
          refine hdf.mono ?_
          rintro e w2 ⟨rfl, hb2⟩
          have hl2 := HLO.out w2
          have HB2 := Lib.hid (HB.out.trans (hb2.mono HB.out.size)); have HK2 := Lib.hid (HK.out.below hb2 HK.out.lt)
          clear hb2
          go_wp2_with fail
          refine hl2.mono ?_
          rintro e w3 ⟨rfl, hb3⟩
          have HB3 := Lib.hid (HB2.out.trans (hb3.mono HB2.out.size)); have HK3 := Lib.hid (HK2.out.below hb3 HK2.out.lt)
          have c0 := HK3.out.cell 0
          have c1 := HK3.out.cell 1
          have f0 := HK3.out.frozen 0
          have f1 := HK3.out.frozen 1
          simp only [List.getElem?_toArray, List.getElem?_cons_zero, List.getElem?_cons_succ] at c0 c1
          clear hb3
          obtain ⟨rfl, rfl⟩ := HV.out
          go_wp2
          have k1 : Blk _ w.heap.size 37 #[.int .i64 ((lowN dn m : Nat) : Int), .int .i64 ((lowD dn m : Nat) : Int)] := (HK3.out.set_ 0 (.int .i64 ((lowN dn m : Nat) : Int))).set_ 1 (.int .i64 ((lowD dn m : Nat) : Int))
          refine bodyPost_ret (frac_ret2 rfl _ _ w.heap.size _ (by simp) k1) rfl ?_
          exact ⟨rfl, ((HB3.out.setCell (p := ⟨w.heap.size, 0, none⟩) (Nat.le_refl _) _).setCell (p := ⟨w.heap.size, 1, none⟩) (Nat.le_refl _) _)⟩
        · have HV : Hid (vE = 3 ∧ vA = fracZ) := Lib.hid (by
            have := HE2.out
            rw [hr, if_pos rfl] at this
            exact ⟨this, by rw [HF.out, this]; rfl⟩)
          have hcase : a < 0 ∨ (0 ≤ a ∧ ((len0 l : Nat) : Int) ≤ a) ∨ (0 ≤ a ∧ a < ((len0 l : Nat) : Int) ∧ b < 0) ∨ (0 ≤ a ∧ a < ((len0 l : Nat) : Int) ∧ 0 ≤ b ∧ ((len0 l : Nat) : Int) ≤ b) := by
            unfold rngB at hr
            simp only [Bool.or_eq_true, decide_eq_true_iff] at hr
            omega
          obtain ⟨rfl, rfl⟩ := HV.out
          have k1 : Blk ((wr.setCell ⟨w.heap.size, 0, none⟩ (.int .i64 0)).setCell ⟨w.heap.size, 1, none⟩ (.int .i64 0)) w.heap.size 37 #[.int .i64 0, .int .i64 0] := (HK.out.set_ 0 (.int .i64 0)).set_ 1 (.int .i64 0)
          have HK1 := Lib.hid k1
          clear k1
          clear hr hE hif hall HE HE2 HF HA HFF HV
          generalize len0 l = n0 at *
          rcases hcase with h | ⟨h, h2⟩ | ⟨h, h2, h3⟩ | ⟨h, h2, h3, h4⟩
          · have g0 : decide (a < 0) = true := decide_eq_true h
            go_wp2
            refine bodyPost_ret (frac_ret2 rfl _ _ w.heap.size _ (by simp) HK1.out) rfl ?_
            exact ⟨rfl, ((HB.out.setCell (p := ⟨w.heap.size, 0, none⟩) (Nat.le_refl _) _).setCell (p := ⟨w.heap.size, 1, none⟩) (Nat.le_refl _) _)⟩
          · have g0 : decide (a < 0) = false := decide_eq_false (by omega)
            have g1 : decide ((n0 : Int) ≤ a) = true := decide_eq_true h2
            go_wp2
            refine bodyPost_ret (frac_ret2 rfl _ _ w.heap.size _ (by simp) HK1.out) rfl ?_
            exact ⟨rfl, ((HB.out.setCell (p := ⟨w.heap.size, 0, none⟩) (Nat.le_refl _) _).setCell (p := ⟨w.heap.size, 1, none⟩) (Nat.le_refl _) _)⟩
          · have g0 : decide (a < 0) = false := decide_eq_false (by omega)
            have g1 : decide ((n0 : Int) ≤ a) = false := decide_eq_false (by omega)
            have g2 : decide (b < 0) = true := decide_eq_true h3
            go_wp2
            refine bodyPost_ret (frac_ret2 rfl _ _ w.heap.size _ (by simp) HK1.out) rfl ?_
            exact ⟨rfl, ((HB.out.setCell (p := ⟨w.heap.size, 0, none⟩) (Nat.le_refl _) _).setCell (p := ⟨w.heap.size, 1, none⟩) (Nat.le_refl _) _)⟩
          · have g0 : decide (a < 0) = false := decide_eq_false (by omega)
            have g1 : decide ((n0 : Int) ≤ a) = false := decide_eq_false (by omega)
            have g2 : decide (b < 0) = false := decide_eq_false (by omega)
            have g3 : decide ((n0 : Int) ≤ b) = true := decide_eq_true h4
            go_wp2
            refine bodyPost_ret (frac_ret2 rfl _ _ w.heap.size _ (by simp) HK1.out) rfl ?_
            exact ⟨rfl, ((HB.out.setCell (p := ⟨w.heap.size, 0, none⟩) (Nat.le_refl _) _).setCell (p := ⟨w.heap.size, 1, none⟩) (Nat.le_refl _) _)⟩
end Go.Proofs.YtgimhjkijpcgjaaDoor
