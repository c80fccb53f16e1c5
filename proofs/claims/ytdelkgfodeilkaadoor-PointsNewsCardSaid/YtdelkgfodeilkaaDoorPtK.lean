/-
  layer 36: the states of from's loops, in plain words, and its memory at the start. Conditions: none.
-/
import Derived.Test.YtdelkgfodeilkaaDoorPtQ
import Derived.Test.YtdelkgfodeilkaaDoorPtE
import Derived.Deep.OwnRows
import Derived.Test.YtdelkgfodeilkaaDoorFlat
namespace Go.Proofs.YtdelkgfodeilkaaDoor
open Go.RowKit Go.Lib

theorem nodup_len : ∀ (N : Nat) (l : List Nat), l.Nodup → (∀ x ∈ l, x < N) → l.length ≤ N
  | 0, l, _, h => by
    cases l with
    | nil => simp
    | cons x l => exact absurd (h x (by simp)) (by omega)
  | N + 1, l, hd, h => by
    have h1 := nodup_len N (l.erase N) (hd.erase N) (fun x hx => by
      have hx1 := List.mem_of_mem_erase hx
      have hx2 : x ≠ N := fun e => by subst e; exact (List.Nodup.not_mem_erase hd) hx
      have := h x hx1; omega)
    have h2 := @List.le_length_erase Nat _ _ N l
    omega
structure LoopO (E : Gr) (a N : Nat) (r : Nat → Int) (cls op : List Nat) : Prop where
  st : OpenSt E a r (· ∈ cls) op
  nd : op.Nodup
  cd : cls.Nodup
  clt : ∀ x ∈ cls, x < N
structure LoopC (E : Gr) (a at_ N : Nat) (r : Nat → Int) (cls op : List Nat) (seen : List (Nat × Int)) : Prop where
  st : CloseSt E a at_ r (· ∈ cls) op seen
  nd : op.Nodup
  cd : cls.Nodup
  clt : ∀ x ∈ cls, x < N
theorem LoopO.start {E : Gr} {a N : Nat} {r : Nat → Int} (h0 : r a = 0) (h1 : ∀ v, v ≠ a → r v = -1) : LoopO E a N r [] [a] :=
  ⟨by have := OpenSt.start (E := E) h0 h1; simpa using this, by simp, by simp, fun x hx => by cases hx⟩
theorem LoopO.close {E : Gr} {a N at_ : Nat} {r : Nat → Int} {cls op : List Nat} (h : LoopO E a N r cls op) (hat : at_ ∈ op) (hmin : ∀ v ∈ op, r at_ ≤ r v) : LoopC E a at_ N r cls (op.filter fun x => !(x == at_)) [] :=
  ⟨h.st.close hat hmin, h.nd.filter _, h.cd, h.clt⟩
theorem LoopC.take {E : Gr} {C : Int} (hl : Lens E C) {a at_ N : Nat} {r : Nat → Int} {cls op : List Nat} {seen : List (Nat × Int)} (h : LoopC E a at_ N r cls op seen) {x : Nat} {l : Int} (he : E at_ x l) (hx : x ≠ at_) (hd : r x < 0) : LoopC E a at_ N (setF r x (r at_ + l)) cls (op ++ [x]) (seen ++ [(x, l)]) := by
  refine ⟨h.st.take hl he hx (.inl hd) (fun v => by simp), ?_, h.cd, h.clt⟩
  rw [List.nodup_append]
  refine ⟨h.nd, by simp, fun y hy z hz => ?_⟩
  obtain rfl := List.mem_singleton.1 hz
  intro e; subst e
  have := (h.st.known y).2 (.inr (.inr hy)); omega
theorem LoopC.less {E : Gr} {C : Int} (hl : Lens E C) {a at_ N : Nat} {r : Nat → Int} {cls op : List Nat} {seen : List (Nat × Int)} (h : LoopC E a at_ N r cls op seen) {x : Nat} {l : Int} (he : E at_ x l) (hx : x ≠ at_) (h0 : 0 ≤ r x) (hd : r at_ + l < r x) : LoopC E a at_ N (setF r x (r at_ + l)) cls op (seen ++ [(x, l)]) := by
  refine ⟨h.st.take hl he hx (.inr ⟨h0, hd⟩) (fun v => ⟨fun hv => .inl hv, fun hv => ?_⟩), h.nd, h.cd, h.clt⟩
  rcases hv with hv | rfl
  · exact hv
  · rcases (h.st.known v).1 h0 with hc | hc | hc
    · have h1 := h.st.cle v hc
      have h2 := (hl at_ v l he).1
      omega
    · exact absurd hc hx
    · exact hc
theorem LoopC.skip {E : Gr} {a at_ N : Nat} {r : Nat → Int} {cls op : List Nat} {seen : List (Nat × Int)} (h : LoopC E a at_ N r cls op seen) {x : Nat} {l : Int} (h0 : 0 ≤ r x) (hd : r x ≤ r at_ + l) : LoopC E a at_ N r cls op (seen ++ [(x, l)]) := ⟨h.st.skip h0 hd, h.nd, h.cd, h.clt⟩
theorem LoopC.closed {E : Gr} {a at_ N : Nat} {r : Nat → Int} {cls op : List Nat} {seen : List (Nat × Int)} (h : LoopC E a at_ N r cls op seen) (hs : ∀ v l, E at_ v l → (v, l) ∈ seen) (hat : at_ < N) : LoopO E a N r (at_ :: cls) op ∧ (at_ :: cls).length = cls.length + 1 := by
  refine ⟨⟨?_, h.nd, List.nodup_cons.2 ⟨h.st.notcl, h.cd⟩, fun x hx => ?_⟩, rfl⟩
  · have := h.st.closed hs
    have e : (fun v => v ∈ at_ :: cls) = fun v => v ∈ cls ∨ v = at_ := by funext v; rw [List.mem_cons]; exact propext Or.comm
    rw [e]; exact this
  · rcases List.mem_cons.1 hx with rfl | hx
    · exact hat
    · exact h.clt x hx
theorem LoopC.known {E : Gr} {a at_ N : Nat} {r : Nat → Int} {cls op : List Nat} {seen : List (Nat × Int)} (h : LoopC E a at_ N r cls op seen) : 0 ≤ r at_ := (h.st.known at_).2 (.inr (.inl rfl))
/-- Not all points are closed while one is open. -/
theorem LoopO.left {E : Gr} {a N at_ : Nat} {r : Nat → Int} {cls op : List Nat} (h : LoopO E a N r cls op) (hat : at_ ∈ op) (hlt : at_ < N) : cls.length < N := by
  have := nodup_len N (at_ :: cls) (List.nodup_cons.2 ⟨fun hc => h.st.apart at_ hc hat, h.cd⟩) (fun x hx => by
    rcases List.mem_cons.1 hx with rfl | hx
    · exact hlt
    · exact h.clt x hx)
  rw [List.length_cons] at this; omega
/-! Memory at the start. -/
def fillF (j : Nat) : Nat → Int := fun x => if x < j then -1 else 0
theorem madeCells_zero (n : Nat) : madeCells #[.int .i64 0] n = (rowA n (fillF 0)).toArray := by
  apply Array.ext
  · simp [madeCells, rowA]
  · intro i h1 h2
    simp [madeCells, rowA, fillF, Nat.mod_one]
theorem fillF_step (j : Nat) : setF (fillF j) j (-1) = fillF (j + 1) := by
  funext v
  unfold setF fillF
  by_cases h : v = j
  · subst h; rw [if_pos rfl, if_pos (by omega)]
  · rw [if_neg h]
    by_cases h1 : v < j
    · rw [if_pos h1, if_pos (by omega)]
    · rw [if_neg h1, if_neg (by omega)]
theorem FromM.start (w : World) (N : Nat) : FromM w ((w.alloc (.cells (madeCells #[.int .i64 0] N) 2)).alloc (.cells #[.slice (some ⟨w.heap.size, 0, none⟩) N N] 63)) (w.heap.size + 1) w.heap.size N (fillF 0) [] (.slice none 0 0) := by
  have k1 : Blk (w.alloc (.cells (madeCells #[.int .i64 0] N) 2)) w.heap.size 2 (rowA N (fillF 0)).toArray := by rw [madeCells_zero]; exact Blk.new w _ _
  have k2 := Blk.new (w.alloc (.cells (madeCells #[.int .i64 0] N) 2)) 63 #[.slice (some ⟨w.heap.size, 0, none⟩) N N]
  rw [World.size_alloc] at k2
  exact ⟨k2, k1.alloc _, World.ownsRow_nil _ _ _ _, fun x hx => (by cases hx), ((Below.refl _ w).alloc (Nat.le_refl _) _).alloc (by simp) _, by omega, Nat.le_refl _⟩
theorem FromM.first {w wr : World} {b q N : Nat} {r : Nat → Int} {v : Value} (h : FromM w wr b q N r [] v) {a : Nat} (ha : a < N) : FromM w (wr.alloc (.cells #[.int .i64 (a : Int)] 3)) b q N r [a] (.slice (some ⟨wr.heap.size, 0, none⟩) 1 1) :=
  ⟨h.box.alloc _, h.row.alloc _, ⟨rfl, .inr ⟨wr.heap.size, 1, #[.int .i64 (a : Int)], rfl, h.below.size, heap_alloc_new wr _, Nat.le_refl _, by unfold maxLen; omega, rfl, rfl⟩⟩, fun x hx => by rw [List.mem_singleton.1 hx]; exact ha, h.below.alloc h.below.size _, h.hb, h.hq⟩
theorem own_pos2 {w : World} {base : Nat} {e : TypeId} {v : Value} {n : Nat} {l : List (Nat × Int)} (h : w.ownsRow base e 2 v n (l.flatMap endV)) (hl : l.length = n) (h0 : 0 < n) :
    ∃ q c, v = .slice (some ⟨q, 0, none⟩) n c ∧ n ≤ c ∧ c ≤ maxLen ∧ base ≤ q ∧ q < w.heap.size ∧ ∀ k (hk : k < l.length), w.cell? ⟨q, k * 2, none⟩ = some (.int .i64 l[k].1) ∧ w.cell? ⟨q, k * 2 + 1, none⟩ = some (.int .i64 l[k].2) := by
  obtain ⟨A, c, rfl, h1, h2⟩ := ownsRow_form h
  have hr := Reads.of_own h
  rcases h.2 with ⟨h', hn⟩ | ⟨q, cap, cur, h', hb, hg, _⟩
  · omega
  · simp only [Value.slice.injEq, true_and] at h'
    obtain ⟨rfl, rfl⟩ := h'
    obtain ⟨ad, had, _, hc⟩ := hr.2 h0
    injection had with had
    subst had
    have hlen : ∀ x : Nat × Int, (endV x).length = 2 := fun _ => rfl
    refine ⟨q, c, rfl, h1, h2, hb, (Array.getElem?_eq_some_iff.1 hg).1, fun k hk => ?_⟩
    have g0 := flatMap_get endV 2 hlen l (k * 2) (by omega)
    have g1 := flatMap_get endV 2 hlen l (k * 2 + 1) (by omega)
    rw [show k * 2 / 2 = k by omega, show k * 2 % 2 = 0 by omega, getElem!_pos l k hk] at g0
    rw [show (k * 2 + 1) / 2 = k by omega, show (k * 2 + 1) % 2 = 1 by omega, getElem!_pos l k hk] at g1
    have c0 := hc _ _ g0
    have c1 := hc _ _ g1
    rw [add_at] at c0 c1
    exact ⟨c0, c1⟩
/-- Where the roads at each point lie. -/
theorem near_rows {w : World} {g : Nat} {M : Pts} (hM : MapAt w g M) (hG : GoodM M) (h0 : 0 < M.names.length) :
    ∃ qE cE, w.cell? ⟨g, 3, none⟩ = some (.slice (some ⟨qE, 0, none⟩) M.names.length cE) ∧ qE < w.heap.size ∧ ∀ k, k < M.names.length → ∃ (u : Value) (row : List (Nat × Int)), w.cell? ⟨qE, k, none⟩ = some u ∧ (∃ base, w.ownsRow base 76 2 u row.length (row.flatMap endV)) ∧
      M.near.getD k [] = row ∧ (∀ v l, edgeOf M k v l ↔ (v, l) ∈ row) ∧ row.length ≤ 100000 := by
  obtain ⟨base, vN, vR, vE, vM, h1, _, _, _, vs, h5, h6, h7⟩ := hM
  have hc := h1.cell 3
  simp only [List.getElem?_toArray, List.getElem?_cons_succ, List.getElem?_cons_zero] at hc
  rw [hG.len] at h5
  obtain ⟨qE, cE, hvE, hqE, hqlt⟩ := h5.form (by omega)
  subst hvE
  refine ⟨qE, cE, hc, hqlt, fun k hk => ?_⟩
  have hk' : k < M.near.length := by rw [hG.len]; exact hk
  obtain ⟨u, hu, ho⟩ := h7 k hk'
  refine ⟨u, M.near[k], ?_, ⟨base, ho⟩, ?_, fun v l => ⟨fun ⟨_, h⟩ => h, fun h => ⟨hk', h⟩⟩, ?_⟩
  · rw [h5.cellAt k (by omega)]; exact hu
  · rw [List.getD_eq_getElem?_getD, List.getElem?_eq_getElem hk']; rfl
  · have hl := nodup_len M.names.length (M.near[k].map Prod.fst) (List.Pairwise.imp (fun {a b} (h : a < b) => Nat.ne_of_lt h) (hG.order k hk')) (fun x hx => by
      obtain ⟨e, he, rfl⟩ := List.mem_map.1 hx
      exact (hG.ends k e.1 e.2 ⟨hk', he⟩).1)
    have := hG.few
    rw [List.length_map] at hl; omega
theorem MapAt.lt {w : World} {g : Nat} {M : Pts} (h : MapAt w g M) : g < w.heap.size := by obtain ⟨base, vN, vR, vE, vM, h1, _⟩ := h; exact h1.lt
end Go.Proofs.YtdelkgfodeilkaaDoor
