/-
  slices.Repeat at a slice of one int. Conditions: at most 100,000 copies.
-/
import Derived.Test.YtgimhjkijpcgjaaDoorIsC
import Derived.Laws.CopyOwn
import Derived.Deep.RegionLaw
import Derived.Test.YtgimhjkijpcgjaaDoorGac
import Derived.Test.YtgimhjkijpcgjaaDoorGaj
import Derived.Test.YtgimhjkijpcgjaaDoorGag
import Derived.Test.YtgimhjkijpcgjaaDoorShelf
import Derived.Test.YtgimhjkijpcgjaaDoorShelf4
import Derived.Shelf.Strings.SlTrimAscii
import Derived.Test.YtgimhjkijpcgjaaDoorGab
import Derived.Shelf.SlSortCmp.WholeK
import Derived.Shelf.SlSortCmp.NoneTotal
import Derived.Test.YtgimhjkijpcgjaaDoorShelf5
namespace Go.Proofs.YtgimhjkijpcgjaaDoor
open Go.RowKit Go.Lib

def RepRow (n c : Nat) (x z : Value) : List Value := List.replicate n x ++ List.replicate (c - n) z
theorem repRow_len {n c : Nat} (h : n ≤ c) (x z : Value) : (RepRow n c x z).length = c := by simp [RepRow]; omega
theorem repRow_splice {n m c : Nat} (h : n + m ≤ c) (x z : Value) : splice (RepRow n c x z) n (List.replicate m x) = RepRow (n + m) c x z := by
  unfold splice RepRow
  rw [List.take_left' (by simp), List.length_replicate, List.drop_append, List.length_replicate, List.drop_eq_nil_of_le (by simp), List.drop_replicate]
  rw [List.nil_append, ← List.append_assoc, List.replicate_append_replicate]
  congr 2; omega
theorem repRow_get {n c j : Nat} {x z : Value} (hj : j < n) : (RepRow n c x z)[j]? = some x := by
  unfold RepRow
  rw [List.getElem?_append_left (by simpa using hj), List.getElem?_replicate, if_pos hj]
theorem made_row {w : World} {base g c : Nat} {e : TypeId} {xs : List Value} (h : w.ownsRow base e 1 (.slice (some ⟨g, 0, none⟩) c c) c xs) : w.heap[g]? = some (.cells xs.toArray e (0, 0)) := by
  rcases h.2 with ⟨h', _⟩ | ⟨g', cap', cur, h', _, hg, _, _, hs, ht⟩
  · simp at h'
  · simp only [Value.slice.injEq, Option.some.injEq, Addr.mk.injEq, and_true, true_and] at h'
    obtain ⟨rfl, rfl⟩ := h'
    rw [hg, ← ht, List.take_of_length_le (by simp [hs])]
theorem row_made {w : World} {base g c : Nat} {e : TypeId} {xs : List Value} (h : w.heap[g]? = some (.cells xs.toArray e (0, 0))) (hl : xs.length = c) (hb : base ≤ g) (hc : c ≤ maxLen) : w.ownsRow base e 1 (.slice (some ⟨g, 0, none⟩) c c) c xs :=
  ⟨by simp [hl], .inr ⟨g, c, xs.toArray, rfl, hb, h, Nat.le_refl _, hc, by simp [hl], by simp [← hl]⟩⟩
theorem step_copied {P : Program} {ops : Array Oper} {o : Oper} {a : Act} {w : World} {K : Act → World → Prop} {Q : Exit → Act → World → Prop} {E : Prop} (hg : o.guard = none) (d x : Operand) (dT sT : TypeId)
    (hop : o.op = .call { callee := .builtin .copy, args := #[d, x], argTypes := #[dT, sT] }) (v u : Value) (hd : a.eval d = v) (hx : a.eval x = u) {n : Value} {W : World}
    (hr : (Builtin.copy_ #[dT, sT] o.type #[v, u]).run P w = .ok n W) (hK : K (a.put o.dst n) W) : if Region.wanted o (yielded ops a.tmps) = true then Oper.wp P o a w K Q else E := by
  rw [if_pos (by simp [Region.wanted, hg])]
  unfold Oper.wp
  simp [execOp, hop, resolve, invoke, builtin, hd, hx, hr, Result.andThen]
  exact hK
theorem const_row (n : Nat) (x : Int) : List.replicate n (Value.int .i64 x) = (List.range n).map fun _ => Value.int .i64 x := by
  apply List.ext_getElem
  · simp
  · intro i h1 h2; simp
set_option maxRecDepth 20000 in
set_option maxHeartbeats 2000000 in
theorem repeatI_any (A : Option Addr) (c0 : Nat) (x : Int) (c : Nat) (w : World) (hr : ReadI w w.heap.size A 1 [x]) (hc0 : 0 < c) (hc : c ≤ 100000) :
    Calls Tryd.prog 77 #[.slice A 1 c0, .int .i64 c] w fun e w' => ∃ q, e = .returned (.slice (some ⟨q, 0, none⟩) c c) ∧ Blk w' q 3 (rowA c fun _ => x).toArray ∧ w.heap.size ≤ q ∧ Below w.heap.size w w' := by
  obtain ⟨i0, hi, hz0, hz1, hz2⟩ := info_parts (show (Tryd.prog.info? 3).map (fun i => (i.zero, i.size, i.bytes)) = some (some (.int .i64 0), 1, 8) by kernel_rfl)
  obtain ⟨ad, rfl, had, hcx⟩ := ReadI.at_ (k := 0) hr (by simp)
  simp only [List.getElem_cons_zero] at hcx
  have hml := fun W => Tryd.bits_Mul 1 c (by omega) (by omega) W
  rw [Nat.one_mul, Nat.div_eq_of_lt (by omega), Nat.mod_eq_of_lt (by omega)] at hml
  have HML := Lib.hid hml
  have hwr : IntKind.u64.wrap (c : Int) = c := by simp [IntKind.wrap, IntKind.bits, IntKind.signed]; omega
  clear hml hr
  go_enter Tryd.func77, Tryd.ntmps77
  go_wp2_with fail
  refine (HML.out _).mono ?_
  rintro e w' ⟨rfl, rfl⟩
  have hsz : (Tryd.prog.info? 3).map (·.size) = some 1 := by rw [hi]; simp [hz1]
  have HSZ := Lib.hid hsz
  clear hsz
  go_wp2_with (first
    | (at_make; refine wpList_make_full _ rfl _ _ 26 rfl w'.heap.size 3 i0 (.int .i64 0) 1 Tryd.underlying26 hi hz0 hz1 .i64 .i64 c c c rfl rfl rfl rfl (by rw [hz2]; omega) (by unfold maxLen; omega) (Nat.le_refl _) ?_; intro w1 hmk hgm; have hb1 : Below w'.heap.size w' w1 := (Below.refl _ w').grown hgm (Nat.le_refl _) (fun g hg => by cases hg); have hg1 : w1.heap[w'.heap.size]? = some (.cells (RepRow 0 c (.int .i64 x) (.int .i64 0)).toArray 3 (0, 0)) := by { have h := made_row hmk; rw [Nat.mul_one] at h; rw [h]; show some (Obj.cells (madeCells #[.int .i64 0] c).toList.toArray _ _) = _; rw [toList_madeCells_one]; simp [RepRow] }; have HG1 := Lib.hid hg1; clear hg1 hmk hgm)
    | (refine wpList_copy_splice rfl (.tmp 31) (.tmp 32) 26 26 rfl 3 Tryd.underlying26 HSZ.out _ _ c c 1 c0 rfl rfl w'.heap.size 0 (RepRow 0 c (.int .i64 x) (.int .i64 0)) 3 HG1.out [.int .i64 x] ?hn ?hp ?hf ?h1 w'.heap.size w' hb1 (Nat.le_refl _) ?_; (case hn => (show 1 = min 1 c; omega)); (case hp => exact fun _ => ⟨rfl, ad, rfl, fun j v hj => by { have hj0 : j = 0 := by { have := (List.getElem?_eq_some_iff.1 hj).1; simpa using this }; subst hj0; rw [List.getElem?_cons_zero] at hj; rw [← hj, hb1.cell (by rw [block_of_add]; exact had)]; exact hcx }⟩); (case hf => (rw [repRow_len (by omega)]; simp; omega)); (case h1 => (intro v hv; rw [List.mem_singleton.1 hv]; rfl)); intro w2 hg2 hb2))
  have hg2' : w2.heap[w'.heap.size]? = some (.cells (RepRow 1 c (.int .i64 x) (.int .i64 0)).toArray 3 (0, 0)) := by
    have h := hg2
    unfold Hid at h
    have hs := repRow_splice (n := 0) (m := 1) (c := c) (by omega) (.int .i64 x) (.int .i64 0)
    rw [Nat.zero_add] at hs
    rw [← hs]; exact h
  have HG2 := Lib.hid hg2'
  clear hg2 hg2' hcx HG1
  generalize hgg : w'.heap.size = g at *
  have HGG := Lib.hid hgg; clear hgg
  go_loopw [8] (fun nv wr => ∃ n : Nat, 0 < n ∧ n ≤ c ∧ nv = .int .i64 n ∧ Hid (wr.heap[g]? = some (.cells (RepRow n c (.int .i64 x) (.int .i64 0)).toArray 3 (0, 0))) ∧ Below g w' wr) (fun nv _ => c - (intOf nv).toNat)
  case atStart => exact ⟨1, by omega, by omega, rfl, HG2, hb2⟩
  case round =>
    obtain ⟨n, hn0, hnc, rfl, hgr, hbr⟩ := hrel
    by_cases hlt : n < c
    · obtain ⟨m, hm1, hm2, hm3, hmin⟩ : ∃ m : Nat, 0 < m ∧ m ≤ n ∧ n + m ≤ c ∧ m = Nat.min n (c - n) := ⟨min n (c - n), by omega, by omega, by omega, rfl⟩
      have hcells : ∀ j, j < n → wr.cell? ⟨g, j, none⟩ = some (.int .i64 x) := fun j hj => by
        rw [cell_of_row wr g j _ _ (0, 0) hgr.out]
        have := repRow_get (n := n) (c := c) (j := j) (x := .int .i64 x) (z := .int .i64 0) hj
        simpa using this
      have HC := Lib.hid hcells; have HMIN := Lib.hid hmin
      have hcn : ¬ (c = n) := by omega
      have hgd : (wr.drew).heap[g]? = some (.cells (RepRow n c (.int .i64 x) (.int .i64 0)).toArray 3 (0, 0)) := hgr.out
      have HGD := Lib.hid hgd; clear hgd
      clear hcells hmin
      obtain ⟨W4, hr4, hg4, hb4⟩ : ∃ W4, (Builtin.copy_ #[26, 26] 3 #[.slice (some ⟨g, n, none⟩) (c - n) (c - n), .slice (some ⟨g, 0, none⟩) n c]).run Tryd.prog wr.drew = .ok (.int .i64 m) W4 ∧ W4.heap[g]? = some (.cells (splice (RepRow n c (.int .i64 x) (.int .i64 0)) n (List.replicate m (.int .i64 x))).toArray 3 (0, 0)) ∧ Below g w' W4 := by
        have hrun := run_copy_row (P := Tryd.prog) wr.drew 26 26 3 3 g n (c - n) (c - n) ⟨g, 0, none⟩ n c (RepRow n c (.int .i64 x) (.int .i64 0)).toArray 3 (List.replicate m (.int .i64 x)) Tryd.underlying26 HSZ.out HGD.out
          (by rw [List.length_replicate]; exact HMIN.out)
          (fun j v hj => by
            rw [List.getElem?_replicate] at hj
            by_cases hjm : j < m
            · rw [if_pos hjm] at hj
              injection hj with hj
              rw [add_at, ← hj]
              exact HC.out j (by omega)
            · rw [if_neg hjm] at hj; cases hj)
          (by rw [List.size_toArray, repRow_len (by omega), List.length_replicate]; exact hm3)
          (fun v hv => by rw [List.eq_of_mem_replicate hv]; rfl)
        rw [List.length_replicate] at hrun
        refine ⟨_, hrun, ?_, below_setRow hbr.drew (Nat.le_refl _) _⟩
        have h := setRow_heap wr.drew g (RepRow n c (.int .i64 x) (.int .i64 0)).toArray (splice (RepRow n c (.int .i64 x) (.int .i64 0)) n (List.replicate m (.int .i64 x))).toArray 3 _ HGD.out
        simpa [splice] using h
      have HR4 := Lib.hid hr4; have HG4 := Lib.hid hg4
      clear hr4 hg4
      have hwm : IntKind.i64.wrap ((n : Int) + (m : Int)) = (n : Int) + (m : Int) := by rw [IntKind.wrap_i64]; omega
      go_wp2_with fail
      go_region_law (refine step_copied rfl (.tmp 41) (.tmp 44) 26 26 rfl (.slice (some ⟨g, n, none⟩) (c - n) (c - n)) (.slice (some ⟨g, 0, none⟩) n c) (by simp [Act.eval, Act.put]) (by simp [Act.eval, Act.put]) HR4.out ?_)
      go_simp
      have hg5 : W4.heap[g]? = some (.cells (RepRow (n + m) c (.int .i64 x) (.int .i64 0)).toArray 3 (0, 0)) := by
        rw [← repRow_splice hm3]; exact HG4.out
      have HG5 := Lib.hid hg5
      clear hg5
      try go_wp2
      go_roundw
      case rel => exact ⟨n + m, by omega, hm3, by simp, HG5, hb4⟩
      case measure => simp [intOf]; omega
    · obtain rfl : n = c := by omega
      have hblk : Blk wr g 3 (rowA n fun _ => x).toArray := by
        have h := hgr.out
        rw [show RepRow n n (.int .i64 x) (.int .i64 0) = rowA n fun _ => x by simp only [RepRow, rowA, Nat.sub_self, List.replicate_zero, List.append_nil]; exact (const_row n x)] at h
        exact h
      clear hgr HG2
      go_wp2
      go_ret
      exact ⟨g, rfl, hblk, Nat.le_of_eq HGG.out, by rw [HGG.out]; exact hbr⟩
end Go.Proofs.YtgimhjkijpcgjaaDoor
namespace Go.Proofs.YtgimhjkijpcgjaaDoor
open Go.RowKit Go.Lib

theorem own_empty1 (w : World) (t : TypeId) : (w.alloc (.cells #[] t)).ownsRow w.heap.size t 1 (.slice (some ⟨w.heap.size, 0, none⟩) 0 0) 0 [] :=
  ⟨rfl, .inr ⟨w.heap.size, 0, #[], rfl, Nat.le_refl _, heap_alloc_new w _, by omega, by omega, by simp, by simp⟩⟩
set_option maxRecDepth 20000 in
set_option maxHeartbeats 1000000 in
theorem cloneS_any (A : Option Addr) (n c : Nat) (xs : List Value) (w : World) (K : Nat) (hr : Reads w K 1 A n xs) (h1 : ∀ u ∈ xs, u.oneCell' = true) (hK : K ≤ w.heap.size) (hn : n ≤ 100000) :
    Calls Tryd.prog 61 #[.slice A n c] w fun e w' => ∃ v, e = .returned v ∧ w'.ownsRow w.heap.size 9 1 v n xs ∧ Below w.heap.size w w' := by
  obtain ⟨i0, hi, hz0, hz1, hz2⟩ := info_parts (show (Tryd.prog.info? 9).map (fun i => (i.zero, i.size, i.bytes)) = some (some (.string ByteArray.empty), 1, 16) by kernel_rfl)
  have hl := hr.1
  have hnil := fun (W : World) (a : Option Addr) (n c : Nat) => Lib.run_eql_slice_nil (P := Tryd.prog) W 22 9 a n c 0 0 Tryd.underlying22
  rcases A with _ | ad
  · have h0 : n = 0 := by
      rcases Nat.eq_zero_or_pos n with h | h
      · exact h
      · obtain ⟨_, h', _⟩ := hr.2 h; cases h'
    subst h0
    obtain rfl : xs = [] := List.eq_nil_of_length_eq_zero (by omega)
    go_enter Tryd.func61, Tryd.ntmps61
    go_wp2
    go_ret
    exact ⟨_, rfl, World.ownsRow_nil _ _ _ _, Below.refl _ _⟩
  · have hown := own_empty1 w 9
    have hr' := (hr.more hK).alloc (Nat.le_refl _) (.cells #[] 9)
    go_enter Tryd.func61, Tryd.ntmps61
    go_wp2_with (at_builtin; refine wpList_append_any _ rfl _ _ 22 rfl w.heap.size 9 i0 (.string ByteArray.empty) 1 16 Tryd.underlying22 hi hz0 hz1 hz2 rfl (by decide) _ _ _ rfl hown w.heap.size _ _ _ xs rfl hr' h1 (by unfold maxLen; omega) (by omega) (by simp) ?_; intro v' w1 hown' hgrow _)
    have hb1 : Below w.heap.size w w1 := ((Below.refl _ w).alloc (Nat.le_refl _) _).grown hgrow (by simp) (fun g hg => (hown.lt g hg).1)
    clear hgrow
    go_ret
    exact ⟨_, rfl, by simpa using hown', hb1⟩
/-- The bytes of names. -/
def lettersB : ByteArray := ⟨#[97, 98, 99, 100, 101, 102, 103, 104, 105, 106, 107, 108, 109, 110, 111, 112, 113, 114, 115, 116, 117, 118, 119, 120, 121, 122, 65, 66, 67, 68, 69, 70, 71, 72, 73, 74, 75, 76, 77, 78, 79, 80, 81, 82, 83, 84, 85, 86, 87, 88, 89, 90, 48, 49, 50, 51, 52, 53, 54, 55, 56, 57, 45]⟩
theorem okByte_mem (c : UInt8) : okByte c = lettersB.data.toList.contains c := by
  have h : ∀ n : Fin 256, okByte (UInt8.ofNat n.val) = lettersB.data.toList.contains (UInt8.ofNat n.val) := by decide +kernel
  have := h ⟨c.toNat, c.toNat_lt⟩
  simpa using this
theorem dropWhile_nil {α : Type} (p : α → Bool) (l : List α) : l.dropWhile p = [] ↔ l.all p = true := by
  induction l with
  | nil => simp
  | cons x l ih =>
    rw [List.dropWhile_cons]
    cases h : p x <;> simp [h, ih]
theorem all_takeWhile {α : Type} (p : α → Bool) (l : List α) : (l.takeWhile p).all p = true := by
  induction l with
  | nil => rfl
  | cons x l ih =>
    rw [List.takeWhile_cons]
    cases h : p x
    · simp
    · simp only [if_true, List.all_cons, h, Bool.true_and]; exact ih
theorem trim_nil (l cs : List UInt8) : Lib.trimS l cs = [] ↔ l.all (fun b => cs.contains b) = true := by
  unfold Lib.trimS Lib.trimRightS Lib.trimLeftS
  rw [dropWhile_nil, List.all_reverse]
  have h3 := List.takeWhile_append_dropWhile (p := fun b => cs.contains b) (l := l.reverse)
  have h4 := all_takeWhile (fun b => cs.contains b) l.reverse
  constructor
  · intro h
    have : (l.reverse).all (fun b => cs.contains b) = true := by rw [← h3, List.all_append, h4, h]; rfl
    rwa [List.all_reverse] at this
  · intro h
    have : (l.reverse).all (fun b => cs.contains b) = true := by rw [List.all_reverse]; exact h
    rw [← h3, List.all_append, h4, Bool.true_and] at this
    exact this
theorem trimN_any (s : ByteArray) (w : World) (hs : s.size ≤ maxLen) : Calls Tryd.prog 63 #[.string s, .string lettersB] w fun e w' => ∃ t : ByteArray, e = .returned (.string t) ∧ (t.data.toList = [] ↔ s.data.toList.all okByte = true) ∧ Below w.heap.size w w' := by
  refine (Any.strings_Trim_laid Tryd.lays160 (by kernel_rfl) s lettersB w (by unfold maxLen at hs; exact hs) (by decide) (ascii_of_all (by decide))).mono ?_
  rintro e w' ⟨rfl, hb⟩
  refine ⟨_, rfl, ?_, hb⟩
  show Lib.trimS s.data.toList lettersB.data.toList = [] ↔ _
  rw [trim_nil]
  have : okByte = fun b => lettersB.data.toList.contains b := by funext b; exact okByte_mem b
  rw [this]
end Go.Proofs.YtgimhjkijpcgjaaDoor
namespace Go.Proofs.YtgimhjkijpcgjaaDoor
open Go.RowKit Go.Sort

section
variable {α : Type} [Inhabited α]
theorem flatK_get (enc : α → List Value) (k : Nat) (hk : ∀ x, (enc x).length = k) (d : Array α) (t : Nat) (h : t < d.size * k) : (d.toList.flatMap enc)[t]? = some (flatK enc k d)[t]! := by
  rw [flatMap_get enc k hk d.toList t (by simpa using h), get_flatK enc k d t h]
  have hlt : t / k < d.size := by
    rcases Nat.eq_zero_or_pos k with e | e
    · subst e; simp at h
    · exact (Nat.div_lt_iff_lt_mul e).2 h
  rw [getElem!_pos d.toList _ (by simpa using hlt), getElem!_pos d _ hlt]
  simp
/-- A row that the call owns, in the sort's words. -/
theorem holdsK_own {enc : α → List Value} {k : Nat} (hk : ∀ x, (enc x).length = k) {w : World} {base : Nat} {e : TypeId} {g n cap : Nat} {ds : List α} (h : w.ownsRow base e k (.slice (some ⟨g, 0, none⟩) n cap) n (ds.flatMap enc)) (hn : ds.length = n) :
    HoldsK enc k w g 0 ds.toArray := by
  have hh : ∃ cur, w.heap[g]? = some (.cells cur e (0, 0)) := by
    rcases h.2 with ⟨h', _⟩ | ⟨g', cap', cur, h', _, hg, _⟩
    · simp at h'
    · simp only [Value.slice.injEq, Option.some.injEq, Addr.mk.injEq, and_true, true_and] at h'
      obtain ⟨rfl, rfl⟩ := h'
      exact ⟨cur, hg⟩
  intro t ht
  rw [size_flatK] at ht
  have ht' : t < ds.length * k := by simpa using ht
  rw [Nat.zero_add]
  refine ⟨?_, ?_⟩
  · rw [h.cellAt t (by rw [← hn]; exact ht')]
    exact flatK_get enc k hk ds.toArray t ht
  · obtain ⟨cur, hg⟩ := hh
    simp [World.frozen?, hg]
/-- .. and back: what such a row reads as. -/
theorem reads_holdsK {enc : α → List Value} {k : Nat} (hk : ∀ x, (enc x).length = k) {w : World} {g n B : Nat} {ds : List α} (h : HoldsK enc k w g 0 ds.toArray) (hn : ds.length = n) (hB : g < B) : Reads w B k (some ⟨g, 0, none⟩) n (ds.flatMap enc) := by
  refine ⟨by rw [flatMap_len enc k hk, hn], fun _ => ⟨_, rfl, hB, fun j u hu => ?_⟩⟩
  have hj : j < ds.length * k := by
    have := (List.getElem?_eq_some_iff.1 hu).1
    rwa [flatMap_len enc k hk] at this
  have h1 := (h j (by rw [size_flatK]; simpa using hj)).1
  rw [Nat.zero_add] at h1
  have h2 := flatK_get enc k hk ds.toArray j (by simpa using hj)
  rw [show (ds.toArray).toList = ds from rfl, hu] at h2
  rw [show (⟨g, 0, none⟩ : Addr).add j = ⟨g, j, none⟩ by unfold Addr.add; split <;> simp_all]
  rw [h1, ← Option.some.inj h2]
  rfl
theorem permIn_list {d d' : Array α} (h : PermIn 0 d.size d d') : d'.toList.Perm d.toList := by
  obtain ⟨h1, _, h3⟩ := h
  have e1 : d.extract 0 d.size = d := by simp
  have e2 : d'.extract 0 d.size = d' := by rw [← h1]; simp
  rwa [e1, e2] at h3
theorem sortedIn_list {lt : α → α → Bool} {d d' : Array α} (hs : d'.size = d.size) (h : SortedIn lt 0 d.size d') : d'.toList.Pairwise fun x y => lt y x = false := by
  rw [List.pairwise_iff_getElem]
  intro i j hi hj hij
  have := h i j (Nat.zero_le _) hij (by simpa [hs] using hj)
  simp only [Array.length_toList] at hi hj
  rw [getElem!_pos d' i hi, getElem!_pos d' j hj] at this
  simpa using this
theorem block_sortWorldK (enc : α → List Value) (k : Nat) (w : World) (blk off m : Nat) (dk : Array α) (os : Array Obj) {b : Nat} (hb : b < w.heap.size) (hne : b ≠ blk) : (sortWorldK enc k w blk off m dk os).heap[b]? = w.heap[b]? := by
  unfold sortWorldK
  rw [Go.Sort.heap_grow_old _ _ (by show b < (putRowK enc k _ blk off dk).heap.size; rw [size_putRowK]; exact hb)]
  simp [putRowK, putRow, mapBlock, Sort.ahead, Array.getElem?_modify, Ne.symm hne]
theorem below_sortWorldK (enc : α → List Value) (k : Nat) (w : World) (blk off m : Nat) (dk : Array α) (os : Array Obj) (hblk : blk < w.heap.size) : Go.RowKit.Below blk w (sortWorldK enc k w blk off m dk os) where
  os := rfl
  tape := rfl
  output := rfl
  size := by have := size_sortWorldK_c enc k w blk off m dk os; omega
  block b hb := block_sortWorldK enc k w blk off m dk os (by omega) (by omega)
end
end Go.Proofs.YtgimhjkijpcgjaaDoor
namespace Go.Proofs.YtgimhjkijpcgjaaDoor
open Go.RowKit Go.Lib Go.Sort

theorem new1_below {bx : Nat} (A B L : Int) (w : World) (hx : Blk w bx 71 #[.int .i64 A, .int .i64 B, .int .i64 L]) :
    PredBelow Tryd.prog 65 #[.pointer (some ⟨bx, 0, none⟩)] (fun x : Nat × Int => .agg (endV x).toArray) (fun x => ((x.1 : Int) == B)) w := by
  rintro W ⟨xe, xl⟩ hW
  show Calls Tryd.prog 65 #[.agg #[.int .i64 (xe : Int), .int .i64 xl], .pointer (some ⟨bx, 0, none⟩)] W fun e w' => e = .returned (.bool ((xe : Int) == B)) ∧ Below w.heap.size w w'
  have k0 := (Blk.new W 106 #[.int .i64 (xe : Int), .int .i64 xl]).cell 0
  have kx := ((hx.below hW hx.lt).alloc (.cells #[.int .i64 (xe : Int), .int .i64 xl] 106)).cell 1
  simp only [List.getElem?_toArray, List.getElem?_cons_zero, List.getElem?_cons_succ] at k0 kx
  have HBL := Lib.hid (hW.alloc hW.size (.cells #[.int .i64 (xe : Int), .int .i64 xl] 106))
  clear hx hW
  go_enter Tryd.func65, Tryd.ntmps65
  go_wp2
  go_ret
  exact ⟨rfl, HBL.out⟩
theorem containsNone_any (fv : Value) (w : World) : Calls Tryd.prog 64 #[.slice none 0 0, fv] w fun e w' => e = .returned (.bool false) ∧ w = w' := by
  have hi : Calls Tryd.prog 85 #[.slice none 0 0, fv] w fun e w' => e = .returned (.int .i64 (-1)) ∧ w = w' := by
    go_enter Tryd.func85, Tryd.ntmps85
    go_wp2
    go_loop [8] (fun i => i = .int .i64 0) (fun _ => 0)
    case atStart => rfl
    case round =>
      subst hrel
      go_wp2
      go_ret
      exact ⟨rfl, rfl⟩
  go_enter Tryd.func64, Tryd.ntmps64
  go_wp2_with fail
  refine hi.mono ?_
  rintro e w' ⟨rfl, rfl⟩
  go_wp2
  go_ret
  exact ⟨rfl, rfl⟩
theorem contains_any {base bx : Nat} {u : Value} {row : List (Nat × Int)} (A B L : Int) (w : World) (hx : Blk w bx 71 #[.int .i64 A, .int .i64 B, .int .i64 L]) (hu : w.ownsRow base 106 2 u row.length (row.flatMap endV)) (hn : row.length ≤ 100000) :
    Calls Tryd.prog 64 #[u, .func (.func 65) #[] #[.pointer (some ⟨bx, 0, none⟩)]] w fun e w' => e = .returned (.bool (row.any fun x => ((x.1 : Int) == B))) ∧ Below w.heap.size w w' := by
  rcases Nat.eq_zero_or_pos row.length with h0 | h0
  · obtain rfl : row = [] := List.eq_nil_of_length_eq_zero h0
    obtain ⟨A', c', rfl, _, _⟩ := ownsRow_form hu
    rcases hu.2 with ⟨h', _⟩ | ⟨g, cap, cur, h', _⟩
    · injection h' with h1 _ h3
      subst h1 h3
      refine (containsNone_any _ w).mono ?_
      rintro e w' ⟨rfl, rfl⟩
      exact ⟨rfl, Below.refl _ _⟩
    · injection h' with h1 _ h3
      subst h1 h3
      obtain ⟨_, _, hg⟩ : ∃ cur, w.heap[g]? = some (.cells cur 106 (0, 0)) ∧ True := by
        rcases hu.2 with ⟨h', _⟩ | ⟨g', cap', cur', h', _, hg, _⟩
        · simp at h'
        · simp only [Value.slice.injEq, Option.some.injEq, Addr.mk.injEq, and_true, true_and] at h'
          obtain ⟨rfl, _⟩ := h'
          exact ⟨cur', hg, trivial⟩
      have hlt : g < w.heap.size := by
        rcases hu.2 with ⟨h', _⟩ | ⟨g', cap', cur', h', _, hg, _⟩
        · simp at h'
        · simp only [Value.slice.injEq, Option.some.injEq, Addr.mk.injEq, and_true, true_and] at h'
          obtain ⟨rfl, _⟩ := h'
          exact (Array.getElem?_eq_some_iff.1 hg).1
      have h := AnyQ.slices_ContainsFunc Tryd.hasEnd 2 Tryd.isAgg106 Tryd.sizeOf106 endV (fun _ => rfl) (fun x => ((x.1 : Int) == B)) 65 #[.pointer (some ⟨bx, 0, none⟩)] (enters_of Tryd.func65 (by kernel_rfl) rfl) g 0 0 c' [] w
        (new1_below A B L w hx) (by simp) (by omega) hlt (fun j hj => absurd hj (Nat.not_lt_zero _))
      exact h
  · obtain ⟨q, c, rfl, _, _, _, hq, hcell⟩ := own_pos2 hu rfl h0
    have h := AnyQ.slices_ContainsFunc Tryd.hasEnd 2 Tryd.isAgg106 Tryd.sizeOf106 endV (fun _ => rfl) (fun x => ((x.1 : Int) == B)) 65 #[.pointer (some ⟨bx, 0, none⟩)] (enters_of Tryd.func65 (by kernel_rfl) rfl) q 0 row.length c row w
      (new1_below A B L w hx) (Nat.le_refl _) (by omega) hq (fun j hj i v hi => by
        have hc' := hcell j hj
        rw [getElem!_pos row j hj] at hi
        unfold endV at hi
        rw [Nat.zero_add]
        match i, hi with
        | 0, hi => simp at hi; rw [← hi]; exact hc'.1
        | 1, hi => simp at hi; rw [← hi]; exact hc'.2
        | i + 2, hi => simp at hi)
    rw [List.take_length] at h
    exact h
/-! The order of ends. -/
theorem new2_any (x y : Nat × Int) (w : World) : Calls Tryd.prog 67 #[.agg (endV x).toArray, .agg (endV y).toArray] w fun e w' => e = .returned (.int .i64 (Lib.compareInt x.1 y.1)) ∧ ∃ q os', w' = grow (w.drewN q) os' := by
  obtain ⟨xe, xl⟩ := x
  obtain ⟨ye, yl⟩ := y
  show Calls Tryd.prog 67 #[.agg #[.int .i64 (xe : Int), .int .i64 xl], .agg #[.int .i64 (ye : Int), .int .i64 yl]] w fun e w' => e = .returned (.int .i64 (Lib.compareInt xe ye)) ∧ ∃ q os', w' = grow (w.drewN q) os'
  have hcmp := fun W => Tryd.cmp_Compare_int xe ye W
  go_enter Tryd.func67, Tryd.ntmps67
  go_wp2_with fail
  refine (hcmp _).mono ?_
  rintro e w' ⟨rfl, rfl⟩
  go_wp2
  go_ret
  exact ⟨rfl, 0, _, by rw [alloc_eq_grow, alloc_eq_grow, grow_grow]; rfl⟩
section
variable {α : Type} [Inhabited α]
theorem own_sortWorldK {enc : α → List Value} {k : Nat} (hk : ∀ x, (enc x).length = k) {W : World} {base o n c m : Nat} {e : TypeId} {xs : List Value} {ds : Array α} {os : Array Obj} (h : W.ownsRow base e k (.slice (some ⟨o, 0, none⟩) n c) n xs) (hds : ds.size = n) :
    (sortWorldK enc k W o 0 m ds os).ownsRow base e k (.slice (some ⟨o, 0, none⟩) n c) n (ds.toList.flatMap enc) := by
  have hx := h.1
  rcases h.2 with ⟨h', _⟩ | ⟨g, cap, cur, h', hb, hg, r1, r2, r3, r4⟩
  · simp at h'
  simp only [Value.slice.injEq, Option.some.injEq, Addr.mk.injEq, and_true, true_and] at h'
  obtain ⟨rfl, rfl⟩ := h'
  have hlt : o < W.heap.size := (Array.getElem?_eq_some_iff.1 hg).1
  have hnc : n * k ≤ c * k := Nat.mul_le_mul_right k r1
  have hfl : (ds.toList.flatMap enc).length = n * k := by rw [flatMap_len enc k hk, Array.length_toList, hds]
  refine ⟨hfl, .inr ⟨o, c, putCells id 0 (flatK enc k ds) cur, rfl, hb, ?_, r1, r2, by simp [putCells, r3], ?_⟩⟩
  · unfold sortWorldK putRowK
    rw [Go.Sort.heap_grow_old _ _ (by simpa using hlt)]
    simp [putRow, mapBlock, Sort.ahead, Array.getElem?_modify, hg, onCells]
  · apply List.ext_getElem?
    intro i
    rw [List.getElem?_take]
    by_cases hi : i < n * k
    · rw [if_pos hi]
      have hic : i < cur.size := by omega
      rw [flatK_get enc k hk ds i (by rw [hds]; exact hi)]
      simp [putCells, hic, show i < ds.size * k by rw [hds]; exact hi]
    · rw [if_neg hi, List.getElem?_eq_none (by omega)]
theorem grown_sortWorldK (enc : α → List Value) (k : Nat) (w : World) (blk m : Nat) (dk : Array α) (os : Array Obj) : w.grownBy (sortWorldK enc k w blk 0 m dk os) (some blk) :=
  ⟨rfl, rfl, rfl, size_sortWorldK_c enc k w blk 0 m dk os, fun b hb hne => block_sortWorldK enc k w blk 0 m dk os hb (fun e => hne (by rw [e]))⟩
end
theorem cmpLays2 (w : World) (blk off size : Nat) : CmpLays Tryd.prog 67 #[] endV 2 (fun x y => Lib.compareInt x.1 y.1) blk off size w := by
  intro m os dk _ x y
  exact new2_any x y _
theorem cmp_lt (x y : Int) : Lib.compareInt x y < 0 ↔ x < y := by unfold Lib.compareInt; split <;> (try split) <;> omega
theorem swo2 : SWO (ltOf (fun x y : Nat × Int => Lib.compareInt x.1 y.1)) where
  irrefl x := by unfold ltOf; rw [decide_eq_false_iff_not, cmp_lt]; omega
  trans x y z h1 h2 := by unfold ltOf at *; rw [decide_eq_true_iff, cmp_lt] at *; omega
  ntrans x y z h1 h2 := by unfold ltOf at *; rw [decide_eq_false_iff_not, cmp_lt] at *; omega
theorem sorted_unique {l d : List (Nat × Int)} (hn : (l.map (·.1)).Nodup) (hp : d.Perm l) (hs : d.Pairwise fun x y => x.1 ≤ y.1) : d = l.mergeSort endLe := by
  have hs2 : (l.mergeSort endLe).Pairwise fun x y => endLe x y = true := List.pairwise_mergeSort (fun a b c h1 h2 => by unfold endLe at *; rw [decide_eq_true_iff] at *; omega) (fun a b => by unfold endLe; rcases Nat.le_total a.1 b.1 with h | h <;> simp [h]) l
  have hp2 := hp.trans (List.mergeSort_perm l endLe).symm
  refine hp2.eq_of_pairwise (le := fun x y => x.1 ≤ y.1) (fun a b ha hb h1 h2 => ?_) hs (hs2.imp fun h => by unfold endLe at h; exact of_decide_eq_true h)
  have e : a.1 = b.1 := Nat.le_antisymm h1 h2
  have ha' := hp.mem_iff.1 ha
  have hb' := List.mem_mergeSort.1 hb
  clear ha hb h1 h2 hp2 hs2 hs hp
  induction l with
  | nil => cases ha'
  | cons x l ih =>
    rw [List.map_cons, List.nodup_cons] at hn
    rcases List.mem_cons.1 ha' with r1 | r1
    · rcases List.mem_cons.1 hb' with r2 | r2
      · rw [r1, r2]
      · exact absurd (List.mem_map.2 ⟨b, r2, by rw [← e, r1]⟩) hn.1
    · rcases List.mem_cons.1 hb' with r2 | r2
      · exact absurd (List.mem_map.2 ⟨a, r1, by rw [e, r2]⟩) hn.1
      · exact ih hn.2 r1 r2
theorem sortEnds_any {base : Nat} {u : Value} {row : List (Nat × Int)} (w : World) (hu : w.ownsRow base 106 2 u row.length (row.flatMap endV)) (hn : row.length ≤ 100000) (hd : (row.map (·.1)).Nodup) :
    Calls Tryd.prog 66 #[u, .func (.func 67) #[] #[]] w fun e w' => e = .returned (.tuple #[]) ∧ w'.ownsRow base 106 2 u row.length ((row.mergeSort endLe).flatMap endV) ∧ w.grownBy w' u.ownBlock := by
  rcases Nat.eq_zero_or_pos row.length with h0 | h0
  · obtain rfl : row = [] := List.eq_nil_of_length_eq_zero h0
    obtain ⟨A, c, rfl, _, _⟩ := ownsRow_form hu
    refine (AnyF.slices_SortFunc_none Tryd.sortEnd A c _ w).mono ?_
    rintro e w' ⟨rfl, rfl⟩
    exact ⟨rfl, by simpa using hu, World.grownBy.refl _ _⟩
  · obtain ⟨q, c, rfl, _, hq⟩ := hu.form h0
    have hH := holdsK_own (enc := endV) (fun _ => rfl) hu rfl
    have hcon := AnyQ.slices_SortFunc Tryd.sortEnd 2 Tryd.isAgg106 Tryd.sizeOf106 endV (fun _ => rfl) (fun x v hv => by simp [endV] at hv; rcases hv with rfl | rfl <;> rfl) (fun x y : Nat × Int => Lib.compareInt x.1 y.1) swo2 67 #[] q 0 c row.toArray w
      (enters_of Tryd.func67 (by kernel_rfl) rfl) (cmpLays2 w q 0 _) hH hq (by simp; omega)
    rw [show row.toArray.size = row.length by simp] at hcon
    refine hcon.mono ?_
    rintro e w' ⟨rfl, d', m, os, hp, hs, rfl⟩
    have hsz : d'.size = row.length := by have := hp.1; simpa using this
    have hp' : PermIn 0 row.toArray.size row.toArray d' := by simpa using hp
    have hs' : SortedIn (ltOf fun x y : Nat × Int => Lib.compareInt x.1 y.1) 0 row.toArray.size d' := by simpa using hs
    have hperm := permIn_list hp'
    have hsort := sortedIn_list (by simpa using hsz) hs'
    have huq : d'.toList = row.mergeSort endLe := sorted_unique hd hperm (hsort.imp fun {x y} h => by
      unfold ltOf at h
      rw [decide_eq_false_iff_not, cmp_lt] at h; omega)
    refine ⟨rfl, ?_, grown_sortWorldK endV 2 w q m d' os⟩
    rw [← huq]
    exact own_sortWorldK (enc := endV) (k := 2) (m := m) (os := os) (fun _ => rfl) hu hsz
end Go.Proofs.YtgimhjkijpcgjaaDoor
