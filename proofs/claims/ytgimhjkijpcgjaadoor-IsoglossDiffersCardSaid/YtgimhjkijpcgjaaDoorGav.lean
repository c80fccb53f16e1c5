/-
  layer 36: the map of the examples, in plain words. Conditions: none.
-/
import Derived.Test.YtgimhjkijpcgjaaDoorGaf
import Derived.Test.YtgimhjkijpcgjaaDoorGal
import Derived.Test.YtgimhjkijpcgjaaDoorGad
import Derived.Deep.LoopGhost
import Derived.Test.YtgimhjkijpcgjaaDoorGau
import Derived.Test.YtgimhjkijpcgjaaDoorGaj
import Derived.Test.YtgimhjkijpcgjaaDoorIsZ
import Derived.Test.YtgimhjkijpcgjaaDoorGaq
import Derived.Test.YtgimhjkijpcgjaaDoorGar
namespace Go.Proofs.YtgimhjkijpcgjaaDoor
open Go.RowKit Go.Lib

def names5 : List ByteArray := [⟨#[97]⟩, ⟨#[98]⟩, ⟨#[99]⟩, ⟨#[100]⟩, ⟨#[101]⟩]
def roads5 : List Rd := [(0, 1, 4), (1, 2, 3), (0, 2, 9), (2, 3, 1)]
theorem ok5 : newE names5 roads5 = 0 := by decide +kernel
abbrev M5 : Pts := newM names5 roads5
theorem near5 : M5.near = [[(1, 4), (2, 9)], [(0, 4), (2, 3)], [(0, 9), (1, 3), (3, 1)], [(2, 1)], []] := by
  have h : nearU 5 roads5 = [[(1, 4), (2, 9)], [(0, 4), (2, 3)], [(1, 3), (0, 9), (3, 1)], [(2, 1)], []] := by decide +kernel
  show (nearU 5 roads5).map (fun l => l.mergeSort endLe) = _
  rw [h]
  have s1 : [((1 : Nat), (4 : Int)), (2, 9)] = [((1 : Nat), (4 : Int)), (2, 9)].mergeSort endLe := sorted_unique (by decide) (List.Perm.refl _) (by decide)
  have s2 : [((0 : Nat), (4 : Int)), (2, 3)] = [((0 : Nat), (4 : Int)), (2, 3)].mergeSort endLe := sorted_unique (by decide) (List.Perm.refl _) (by decide)
  have s3 : [((0 : Nat), (9 : Int)), (1, 3), (3, 1)] = [((1 : Nat), (3 : Int)), (0, 9), (3, 1)].mergeSort endLe := sorted_unique (by decide) (List.Perm.swap _ _ _) (by decide)
  have s4 : [((2 : Nat), (1 : Int))] = [((2 : Nat), (1 : Int))].mergeSort endLe := sorted_unique (by decide) (List.Perm.refl _) (by decide)
  have s5 : ([] : List (Nat × Int)) = ([] : List (Nat × Int)).mergeSort endLe := sorted_unique (by decide) (List.Perm.refl _) (by decide)
  simp only [List.map_cons, List.map_nil]
  rw [← s1, ← s2, ← s3, ← s4, ← s5]
theorem edge5 (u v : Nat) (l : Int) : edgeOf M5 u v l ↔ (u, v, l) ∈ [((0 : Nat), (1 : Nat), (4 : Int)), (0, 2, 9), (1, 0, 4), (1, 2, 3), (2, 0, 9), (2, 1, 3), (2, 3, 1), (3, 2, 1)] := by
  rw [edge_new ok5]
  constructor
  · rintro ⟨x, hx, hr⟩
    simp only [roads5, List.mem_cons, List.not_mem_nil, or_false] at hx
    rcases hr with ⟨h1, h2, h3⟩ | ⟨h1, h2, h3⟩
    · obtain rfl : u = x.1.toNat := by omega
      obtain rfl : v = x.2.1.toNat := by omega
      obtain rfl : l = x.2.2 := h3.symm
      clear h1 h2 h3
      rcases hx with rfl | rfl | rfl | rfl <;> decide
    · obtain rfl : v = x.1.toNat := by omega
      obtain rfl : u = x.2.1.toNat := by omega
      obtain rfl : l = x.2.2 := h3.symm
      clear h1 h2 h3
      rcases hx with rfl | rfl | rfl | rfl <;> decide
  · intro h
    simp only [List.mem_cons, Prod.mk.injEq, List.not_mem_nil, or_false] at h
    rcases h with ⟨rfl, rfl, rfl⟩ | ⟨rfl, rfl, rfl⟩ | ⟨rfl, rfl, rfl⟩ | ⟨rfl, rfl, rfl⟩ | ⟨rfl, rfl, rfl⟩ | ⟨rfl, rfl, rfl⟩ | ⟨rfl, rfl, rfl⟩ | ⟨rfl, rfl, rfl⟩
    · exact ⟨(0, 1, 4), by simp [roads5], .inl ⟨rfl, rfl, rfl⟩⟩
    · exact ⟨(0, 2, 9), by simp [roads5], .inl ⟨rfl, rfl, rfl⟩⟩
    · exact ⟨(0, 1, 4), by simp [roads5], .inr ⟨rfl, rfl, rfl⟩⟩
    · exact ⟨(1, 2, 3), by simp [roads5], .inl ⟨rfl, rfl, rfl⟩⟩
    · exact ⟨(0, 2, 9), by simp [roads5], .inr ⟨rfl, rfl, rfl⟩⟩
    · exact ⟨(1, 2, 3), by simp [roads5], .inr ⟨rfl, rfl, rfl⟩⟩
    · exact ⟨(2, 3, 1), by simp [roads5], .inl ⟨rfl, rfl, rfl⟩⟩
    · exact ⟨(2, 3, 1), by simp [roads5], .inr ⟨rfl, rfl, rfl⟩⟩
def row5 (a v : Nat) : Int := (([[0, 4, 7, 8, -1], [4, 0, 3, 4, -1], [7, 3, 0, 1, -1], [8, 4, 1, 0, -1], [-1, -1, -1, -1, 0]] : List (List Int)).getD a []).getD v (-1)
theorem dist5 (a : Nat) (ha : a < 5) (v : Nat) : distM M5 a v = row5 a v := by
  refine (good_new ok5).eq ?_ v
  have hbig : ∀ v, 5 ≤ v → row5 a v = -1 := by
    intro v hv
    unfold row5
    have : a = 0 ∨ a = 1 ∨ a = 2 ∨ a = 3 ∨ a = 4 := by omega
    rcases this with rfl | rfl | rfl | rfl | rfl <;> (show List.getD _ v (-1) = -1; rw [List.getD_eq_getElem?_getD, List.getElem?_eq_none (by simpa using hv)]; rfl)
  refine ⟨?_, fun v => ?_, fun u v l he h0 => ?_, fun v h0 => ?_⟩
  · have : ∀ a : Fin 5, row5 a.val a.val = 0 := by decide
    exact this ⟨a, ha⟩
  · by_cases hv : v < 5
    · have : ∀ a v : Fin 5, -1 ≤ row5 a.val v.val := by decide
      exact this ⟨a, ha⟩ ⟨v, hv⟩
    · rw [hbig v (by omega)]; omega
  · rw [edge5] at he
    have : ∀ a : Fin 5, ∀ e ∈ [((0 : Nat), (1 : Nat), (4 : Int)), (0, 2, 9), (1, 0, 4), (1, 2, 3), (2, 0, 9), (2, 1, 3), (2, 3, 1), (3, 2, 1)], 0 ≤ row5 a.val e.1 → 0 ≤ row5 a.val e.2.1 ∧ row5 a.val e.2.1 ≤ row5 a.val e.1 + e.2.2 := by decide
    exact this ⟨a, ha⟩ (u, v, l) he h0
  · by_cases hv : v < 5
    · have : ∀ a v : Fin 5, 0 ≤ row5 a.val v.val → v.val = a.val ∨ ∃ e ∈ [((0 : Nat), (1 : Nat), (4 : Int)), (0, 2, 9), (1, 0, 4), (1, 2, 3), (2, 0, 9), (2, 1, 3), (2, 3, 1), (3, 2, 1)], e.2.1 = v.val ∧ 0 ≤ row5 a.val e.1 ∧ row5 a.val v.val = row5 a.val e.1 + e.2.2 := by decide
      rcases this ⟨a, ha⟩ ⟨v, hv⟩ h0 with h | ⟨⟨u, v', l⟩, hm, hv', h1, h2⟩
      · exact .inl h
      · simp only at hv' h1 h2
        subst hv'
        exact .inr ⟨u, l, (edge5 _ _ _).2 hm, h1, h2⟩
    · rw [hbig v (by omega)] at h0; omega
theorem len5 : M5.n = 5 := rfl
theorem distS5 : distS M5 0 2 = (7, true) := by
  unfold distS
  rw [if_pos (by unfold inM; rw [len5]; decide), show (0 : Int).toNat = 0 from rfl, show (2 : Int).toNat = 2 from rfl, dist5 0 (by decide)]; rfl
theorem labels5 : labelsS M5 = [0, 0, 0, 0, 4] := by
  unfold labelsS
  rw [len5]
  have h : ∀ b, labK M5 5 b = (((List.range 5).find? fun c => decide (0 ≤ row5 c b)).map fun (c : Nat) => (c : Int)).getD (-1) := by
    intro b
    unfold labK firstC
    have : (List.range 5).find? (fun c => decide (0 ≤ distM M5 c b)) = (List.range 5).find? (fun c => decide (0 ≤ row5 c b)) := by
      have key : ∀ l : List Nat, (∀ x ∈ l, x < 5) → l.find? (fun c => decide (0 ≤ distM M5 c b)) = l.find? (fun c => decide (0 ≤ row5 c b)) := by
        intro l
        induction l with
        | nil => intro _; rfl
        | cons x l ih =>
          intro hx
          rw [List.find?_cons, List.find?_cons, dist5 x (hx x (by simp)), ih (fun y hy => hx y (by simp [hy]))]
      exact key _ (fun x hx => List.mem_range.1 hx)
    rw [this]
    cases (List.range 5).find? (fun c => decide (0 ≤ row5 c b)) <;> rfl
  rw [List.map_congr_left fun b _ => h b]
  decide
theorem within5 : withinS M5 1 4 = [0, 1, 2, 3] := by
  unfold withinS
  rw [if_pos (by unfold inM; rw [len5]; decide)]
  unfold withinL
  rw [len5, show (1 : Int).toNat = 1 from rfl]
  have : (fun b => decide (0 ≤ distM M5 1 b) && decide (distM M5 1 b ≤ 4)) = fun b => decide (0 ≤ row5 1 b) && decide (row5 1 b ≤ 4) := by funext b; rw [dist5 1 (by decide)]
  rw [this]; decide
theorem way5 : wayS M5 0 2 = [0, 1, 2] := by
  unfold wayS
  rw [if_pos (by unfold inM; rw [len5]; decide)]
  unfold wayL
  rw [show (0 : Int).toNat = 0 from rfl, show (2 : Int).toNat = 2 from rfl, dist5 2 (by decide), if_pos (by decide), show (row5 2 0).toNat = 7 from rfl]
  have st : ∀ at_, stepM M5 2 at_ = (M5.near.getD at_ []).find? fun e => row5 2 e.1 + e.2 == row5 2 at_ := by
    intro at_
    unfold stepM
    congr 1
    funext e
    rw [dist5 2 (by decide), dist5 2 (by decide)]
  have s0 : stepM M5 2 0 = some (1, 4) := by rw [st, near5]; decide
  have s1 : stepM M5 2 1 = some (2, 3) := by rw [st, near5]; decide
  simp only [wayF, s0, s1]
  decide
end Go.Proofs.YtgimhjkijpcgjaaDoor
namespace Go.Proofs.YtgimhjkijpcgjaaDoor
open Go.RowKit Go.Lib

end Go.Proofs.YtgimhjkijpcgjaaDoor
namespace Go.Proofs.YtgimhjkijpcgjaaDoor
open Go.RowKit Go.Lib

/-- The contract of the reference's New. -/
def RefAny : Prop := ∀ (A B : Option Addr) (n c m d : Nat) (names : List ByteArray) (roads : List Rd) (w : World), ReadS w w.heap.size A n names → Reads w w.heap.size 3 B m (roads.flatMap roadV) → (∀ s ∈ names, s.size ≤ maxLen) →
  Calls Tryd.prog 43 #[.slice A n c, .slice B m d] w (RefPost w names roads)
def newO (names : List ByteArray) (roads : List Rd) : Option Pts := if newE names roads = 0 then some (newM names roads) else none
theorem newO_new (names : List ByteArray) (roads : List Rd) : NewO (newO names roads) := fun M e => by
  unfold newO at e
  by_cases h : newE names roads = 0
  · rw [if_pos h] at e
    injection e with e
    exact ⟨names, roads, h, e.symm⟩
  · rw [if_neg h] at e; cases e
theorem NewPost.om {w w' : World} {names : List ByteArray} {roads : List Rd} {e : Ending} (h : NewPost w names roads e w') : ∃ p, e = .returned (.tuple #[.pointer p, .int .i64 (newE names roads)]) ∧ MapO w' p (newO names roads) ∧ Below w.heap.size w w' := by
  obtain ⟨h1, h2, h3⟩ := h
  unfold newO
  by_cases hE : newE names roads = 0
  · obtain ⟨g, e1, hM⟩ := h2 hE
    rw [if_pos hE, hE]
    exact ⟨some ⟨g, 0, none⟩, e1, ⟨g, rfl, hM⟩, h3⟩
  · rw [if_neg hE]
    exact ⟨none, h1 hE, rfl, h3⟩
theorem RefPost.om {w w' : World} {names : List ByteArray} {roads : List Rd} {e : Ending} (h : RefPost w names roads e w') : ∃ p, e = .returned (.tuple #[.pointer p, .int .i64 (newE names roads)]) ∧ RefO w' p (newO names roads) ∧ Below w.heap.size w w' := by
  obtain ⟨h1, h2, h3⟩ := h
  unfold newO
  by_cases hE : newE names roads = 0
  · obtain ⟨g, e1, hM⟩ := h2 hE
    rw [if_pos hE, hE]
    exact ⟨some ⟨g, 0, none⟩, e1, ⟨g, rfl, hM⟩, h3⟩
  · rw [if_neg hE]
    exact ⟨none, h1 hE, rfl, h3⟩
theorem both_nil {w w' : World} {p q : Option Addr} {om : Option Pts} (h : MapO w p om) (h' : RefO w' q om) : (p = none ∧ q = none) ∨ (∃ g g', p = some ⟨g, 0, none⟩ ∧ q = some ⟨g', 0, none⟩) := by
  cases om with
  | none => exact .inl ⟨h, h'⟩
  | some M =>
    obtain ⟨g, e, _⟩ := h
    obtain ⟨g', e', _⟩ := h'
    exact .inr ⟨g, g', e, e'⟩
theorem near_few {om : Option Pts} (hG : GoodO om) : ∀ M, om = some M → M.near.length = M.names.length ∧ ∀ l ∈ M.near, l.length ≤ 100000 := fun M e => by
  have hGM := hG M e
  refine ⟨hGM.len, fun l hl => ?_⟩
  obtain ⟨u, hu, rfl⟩ := List.getElem_of_mem hl
  have := nodup_len M.names.length (M.near[u].map Prod.fst) (List.Pairwise.imp (fun {a b} (h : a < b) => Nat.ne_of_lt h) (hGM.order u hu)) (fun x hx => by
    obtain ⟨e, he, rfl⟩ := List.mem_map.1 hx
    exact (hGM.ends u e.1 e.2 ⟨hu, he⟩).1)
  rw [List.length_map] at this
  have h2 : M.names.length ≤ 128 := hGM.few
  omega
/-- A list that was handed back reads as itself later on. -/
theorem GivesI.open_ {w : World} {xs : List Int} {e : Ending} {w' : World} (h : GivesI w xs e w') : ∃ A c, e = .returned (.slice A xs.length c) ∧ ReadI w' w'.heap.size A xs.length xs ∧ xs.length ≤ maxLen ∧ Below w.heap.size w w' := by
  obtain ⟨v, rfl, ho, hb⟩ := h
  obtain ⟨A, c, rfl, h1, h2⟩ := ownsRow_form ho
  exact ⟨A, c, rfl, Reads.of_own ho, Nat.le_trans h1 h2, hb⟩
end Go.Proofs.YtgimhjkijpcgjaaDoor
namespace Go.Proofs.YtgimhjkijpcgjaaDoor
open Go.RowKit Go.Lib

set_option maxRecDepth 20000 in
set_option maxHeartbeats 2000000 in
theorem equalI_any (A B : Option Addr) (n c m d : Nat) (xs ys : List Int) (w : World) (hx : ReadI w w.heap.size A n xs) (hy : ReadI w w.heap.size B m ys) (hn : n ≤ maxLen) :
    Calls Tryd.prog 21 #[.slice A n c, .slice B m d] w fun e w' => e = .returned (.bool (decide (xs = ys))) ∧ Below w.heap.size w w' := by
  have hxl := hx.len
  have hyl := hy.len
  unfold maxLen at hn
  by_cases hnm : n = m
  · subst hnm
    obtain ⟨res, hres⟩ : ∃ res, decide (xs = ys) = res := ⟨_, rfl⟩
    rw [hres]
    have HRES := Lib.hid hres; have HX := Lib.hid hx; have HY := Lib.hid hy; have HXL := Lib.hid hxl; have HYL := Lib.hid hyl
    clear hres hx hy hxl hyl
    go_enter Tryd.func21, Tryd.ntmps21
    go_wp2
    go_loopw [5] (fun i wr => ∃ k : Nat, k ≤ n ∧ i = .int .i64 k ∧ xs.take k = ys.take k ∧ Below w.heap.size w wr) (fun i _ => n - (intOf i).toNat)
    case atStart => exact ⟨0, by omega, rfl, rfl, Below.refl _ _⟩
    case round =>
      obtain ⟨k, hk, rfl, ht, hb⟩ := hrel
      have HT := Lib.hid ht
      clear ht
      by_cases hlt : k < n
      · have hkx : k < xs.length := by rw [HXL.out]; exact hlt
        have hky : k < ys.length := by rw [HYL.out]; exact hlt
        obtain ⟨ad, rfl, had, hcx⟩ := ReadI.at_ (k := k) HX.out hkx
        obtain ⟨bd, rfl, hbd, hcy⟩ := ReadI.at_ (k := k) HY.out hky
        have hc1 := (hb.cell (p := ad.add k) (by rw [block_of_add]; exact had)).trans hcx
        have hc2 := (hb.cell (p := bd.add k) (by rw [block_of_add]; exact hbd)).trans hcy
        have hsx := List.take_succ_eq_append_getElem hkx
        have hsy := List.take_succ_eq_append_getElem hky
        have hne : xs[k] ≠ ys[k] → xs ≠ ys := fun h e => h (by subst e; rfl)
        generalize xs[k] = x at hc1 hsx hne
        generalize ys[k] = y at hc2 hsy hne
        have HSX := Lib.hid hsx; have HSY := Lib.hid hsy; have HNE := Lib.hid hne
        clear hsx hsy hne hcx hcy
        have hbd := hb.drew
        by_cases hxy : x = y
        · go_wp2
          go_region
          go_wp2
          go_roundw
          case rel => exact ⟨k + 1, by omega, by go_num, by rw [HSX.out, HSY.out, HT.out, hxy], hbd⟩
          case measure => simp [intOf]; omega
        · go_wp2
          go_region
          go_wp2
          go_ret
          exact ⟨by rw [← HRES.out, decide_eq_false (HNE.out hxy)]; rfl, hbd⟩
      · obtain rfl : k = n := by omega
        go_wp2
        go_ret
        have he : xs = ys := by
          have := HT.out
          rwa [List.take_of_length_le (by rw [HXL.out]; exact Nat.le_refl _), List.take_of_length_le (by rw [HYL.out]; exact Nat.le_refl _)] at this
        exact ⟨by rw [← HRES.out, decide_eq_true he]; rfl, hb⟩
  · have hd : decide (xs = ys) = false := decide_eq_false (fun e => hnm (by rw [← hxl, ← hyl, e]))
    rw [hd]
    have hnmI : ¬ (n : Int) = (m : Int) := by omega
    clear hx hy hxl hyl hd
    go_enter Tryd.func21, Tryd.ntmps21
    go_wp2
    go_ret
    exact ⟨rfl, Below.refl _ _⟩
def names37 : List ByteArray := [⟨#[97]⟩, ⟨#[98]⟩, ⟨#[99]⟩, ⟨#[100]⟩, ⟨#[101]⟩]
def roads37 : List Rd := [(0, 1, 1), (1, 2, 1), (2, 3, 1), (3, 0, 1), (2, 4, 1)]
def vU : List Int := [7, 7, 5, 7, 7]
def vW : List Int := [1, 2, 2, 1, 2]
theorem ok37 : newE names37 roads37 = 0 := by decide +kernel
def om37 : Option Pts := some (newM names37 roads37)
theorem new37 : NewO om37 := fun _ e => by
  injection e with e
  exact ⟨names37, roads37, ok37, e.symm⟩
theorem reads_at {w : World} {b : Nat} {t : TypeId} {cs : Array Value} {sz n : Nat} {xs : List Value} (h : Blk w b t cs) (hs : xs.length = n * sz) (he : cs = xs.toArray) : Reads w w.heap.size sz (some ⟨b, 0, none⟩) n xs := by
  subst he
  refine ⟨hs, fun _ => ⟨_, rfl, h.lt, fun j u hu => ?_⟩⟩
  rw [add_at]
  exact (h.cell j).trans (by rw [List.getElem?_toArray]; exact hu)
set_option maxRecDepth 20000 in
set_option maxHeartbeats 2000000 in
theorem example37_any (hnew : NewAny) (w : World) : Calls Tryd.prog 39 #[] w fun e w' => ∃ p, e = .returned (.pointer p) ∧ MapO w' p om37 ∧ Below w.heap.size w w' := by
  have k1 := (Blk.new w 9 #[.string ⟨#[97]⟩, .string ⟨#[98]⟩, .string ⟨#[99]⟩, .string ⟨#[100]⟩, .string ⟨#[101]⟩]).alloc (.cells (roads37.flatMap roadV).toArray 71)
  have k2 := Blk.new (w.alloc (.cells #[.string ⟨#[97]⟩, .string ⟨#[98]⟩, .string ⟨#[99]⟩, .string ⟨#[100]⟩, .string ⟨#[101]⟩] 9)) 71 (roads37.flatMap roadV).toArray
  rw [World.size_alloc] at k2
  have hb : Below w.heap.size w ((w.alloc (.cells #[.string ⟨#[97]⟩, .string ⟨#[98]⟩, .string ⟨#[99]⟩, .string ⟨#[100]⟩, .string ⟨#[101]⟩] 9)).alloc (.cells (roads37.flatMap roadV).toArray 71)) := ((Below.refl _ w).alloc (Nat.le_refl _) _).alloc (by simp) _
  have hn := hnew (some ⟨w.heap.size, 0, none⟩) (some ⟨w.heap.size + 1, 0, none⟩) 5 5 5 5 names37 roads37 _ (reads_at k1 (xs := names37.map Value.string) rfl rfl) (reads_at k2 rfl rfl) (by decide)
  have HB := Lib.hid hb; have HN := Lib.hid hn
  clear k1 k2 hb hn
  go_enter Tryd.func39, Tryd.ntmps39
  go_wp2_with fail
  refine HN.out.mono ?_
  intro e w1 h1
  obtain ⟨p, rfl, hM, hb1⟩ := h1.om
  have e1 : newO names37 roads37 = om37 := by unfold newO om37; rw [if_pos ok37]
  rw [e1] at hM
  have HM := Lib.hid hM; have HB1 := Lib.hid (HB.out.trans (hb1.mono HB.out.size))
  clear h1 hM hb1 e1
  go_wp2
  go_ret
  exact ⟨p, rfl, HM.out, HB1.out⟩
set_option maxRecDepth 20000 in
theorem both37_any (w : World) : Calls Tryd.prog 40 #[] w fun e w' => ∃ b0 b1 b : Nat, e = .returned (.slice (some ⟨b, 0, none⟩) 2 2) ∧ Blk w' b0 3 (vU.map (Value.int .i64)).toArray ∧ Blk w' b1 3 (vW.map (Value.int .i64)).toArray ∧ Blk w' b 26 #[.slice (some ⟨b0, 0, none⟩) 5 5, .slice (some ⟨b1, 0, none⟩) 5 5] ∧ Below w.heap.size w w' := by
  go_enter Tryd.func40, Tryd.ntmps40
  go_wp2
  go_ret
  refine ⟨w.heap.size, w.heap.size + 1, w.heap.size + 1 + 1, rfl, ?_, ?_, ?_, ?_⟩
  · exact ((Blk.new w _ _).alloc _).alloc _
  · have := (Blk.new (w.alloc (.cells (vU.map (Value.int .i64)).toArray 3)) 3 (vW.map (Value.int .i64)).toArray).alloc (.cells #[.slice (some ⟨w.heap.size, 0, none⟩) 5 5, .slice (some ⟨w.heap.size + 1, 0, none⟩) 5 5] 26)
    rw [World.size_alloc] at this
    exact this
  · have := Blk.new ((w.alloc (.cells (vU.map (Value.int .i64)).toArray 3)).alloc (.cells (vW.map (Value.int .i64)).toArray 3)) 26 #[.slice (some ⟨w.heap.size, 0, none⟩) 5 5, .slice (some ⟨w.heap.size + 1, 0, none⟩) 5 5]
    rw [World.size_alloc, World.size_alloc] at this
    exact this
  · exact (((Below.refl _ w).alloc (Nat.le_refl _) _).alloc (by simp) _).alloc (by simp; omega) _
end Go.Proofs.YtgimhjkijpcgjaaDoor
