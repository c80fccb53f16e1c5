/-
  What the laws of layer 36 share: a row of numbers that turn in memory; Near with its list. Conditions: a map that New made.
-/
import Derived.Test.YtdelkgfodeilkaaDoorPtC
import Derived.Test.YtdelkgfodeilkaaDoorPtW
import Derived.Test.YtdelkgfodeilkaaDoorPtN
namespace Go.Proofs.YtdelkgfodeilkaaDoor
open Go.RowKit Go.Lib

theorem nearL_in {M : Pts} {a : Nat} (ha : a < M.n) : nearL (some M) a = (M.near.getD a []).map (fun e => (e.1 : Int)) := by
  unfold nearL
  rw [if_pos ⟨by omega, by show (a : Int) < (M.n : Int); omega⟩, Int.toNat_natCast]; rfl
theorem nearL_mem {M : Pts} {a v : Nat} {l : Int} (ha : a < M.n) (h : edgeOf M a v l) : ((v : Int)) ∈ nearL (some M) a := by
  obtain ⟨hu, hm⟩ := h
  rw [nearL_in ha, List.getD_eq_getElem?_getD, List.getElem?_eq_getElem hu]
  exact List.mem_map.2 ⟨(v, l), hm, rfl⟩
/-- The counts as they lie in memory. -/
structure CntM (t : TypeId) (w wr : World) (q N : Nat) (f : Nat → Int) : Prop where
  row : Blk wr q t (rowA N f).toArray
  below : Below w.heap.size w wr
  hq : w.heap.size ≤ q
section
variable {t : TypeId} {w wr w' : World} {q N : Nat} {f : Nat → Int}
theorem CntM.later (h : CntM t w wr q N f) (hb : Below wr.heap.size wr w') : CntM t w w' q N f := ⟨h.row.below hb h.row.lt, h.below.trans (hb.mono h.below.size), h.hq⟩
theorem CntM.alloc (h : CntM t w wr q N f) (o : Obj) : CntM t w (wr.alloc o) q N f := h.later ((Below.refl _ _).alloc (Nat.le_refl _) o)
theorem CntM.set_ (h : CntM t w wr q N f) {x : Nat} (hx : x < N) (d : Int) : CntM t w (wr.setCell ⟨q, x, none⟩ (.int .i64 d)) q N (setF f x d) :=
  ⟨by rw [← rowA_set f hx]; exact h.row.set_ x _, h.below.setCell (p := ⟨q, x, none⟩) h.hq _, h.hq⟩
theorem CntM.cell (h : CntM t w wr q N f) {x : Nat} (hx : x < N) : wr.cell? ⟨q, x, none⟩ = some (.int .i64 (f x)) := (Blk.cell h.row x).trans (rowA_get f hx)
theorem CntM.start (t : TypeId) (w : World) (N : Nat) : CntM t w (w.alloc (.cells (madeCells #[.int .i64 0] N) t)) w.heap.size N (fun _ => 0) := by
  refine ⟨?_, (Below.refl _ w).alloc (Nat.le_refl _) _, Nat.le_refl _⟩
  have : madeCells #[.int .i64 0] N = (rowA N (fun _ => 0)).toArray := by
    rw [madeCells_zero, show fillF 0 = fun _ => (0 : Int) from by funext v; unfold fillF; rw [if_neg (Nat.not_lt_zero v)]]
  rw [this]; exact Blk.new w _ _
end
theorem near_gives {g : Nat} {M : Pts} {w1 : World} (hO : MapO w1 (some ⟨g, 0, none⟩) (some M)) (hG : GoodM M) (W : World) (hW : Below w1.heap.size w1 W) (x : Nat) :
    Calls Tryd.prog 26 #[.pointer (some ⟨g, 0, none⟩), .int .i64 (x : Int)] W fun e w' => ∃ A c, e = .returned (.slice A (nearL (some M) x).length c) ∧ ReadI w' w'.heap.size A (nearL (some M) x).length (nearL (some M) x) ∧ (nearL (some M) x).length ≤ maxLen ∧ Below W.heap.size W w' := by
  refine (nearP_any _ _ x W (hO.below hW) (fun M' e => ?_)).mono ?_
  · injection e with e
    subst e
    refine ⟨hG.len, fun l hl => ?_⟩
    obtain ⟨u, hu, rfl⟩ := List.getElem_of_mem hl
    have := nodup_len M.names.length (M.near[u].map Prod.fst) (List.Pairwise.imp (fun {a b} (h : a < b) => Nat.ne_of_lt h) (hG.order u hu)) (fun x hx => by
      obtain ⟨e, he, rfl⟩ := List.mem_map.1 hx
      exact (hG.ends u e.1 e.2 ⟨hu, he⟩).1)
    rw [List.length_map] at this
    have h2 : M.names.length ≤ 128 := hG.few
    omega
  · rintro e w' ⟨v, rfl, ho, hb⟩
    obtain ⟨A, c, rfl, hca, hcb⟩ := ownsRow_form ho
    exact ⟨A, c, rfl, Reads.of_own ho, Nat.le_trans hca hcb, hb⟩
end Go.Proofs.YtdelkgfodeilkaaDoor
