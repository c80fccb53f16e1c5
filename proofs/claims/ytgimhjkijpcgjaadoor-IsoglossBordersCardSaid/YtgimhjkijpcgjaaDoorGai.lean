/-
  layer 36: Labels of the program. Conditions: nil, or a map that New made (or the zero one).
-/
import Derived.Test.YtgimhjkijpcgjaaDoorGah
import Derived.Sort.LoopGhostIn
import Derived.Test.YtgimhjkijpcgjaaDoorGaf
import Derived.Test.YtgimhjkijpcgjaaDoorShelf
namespace Go.Proofs.YtgimhjkijpcgjaaDoor
open Go.RowKit Go.Shelf Go.Lib
attribute [local go_sem] Oper.semAt_some

/-- The labels as they lie in memory. -/
structure LabM (w wr : World) (b q N : Nat) (f : Nat → Int) : Prop where
  box : Blk wr b 26 #[.slice (some ⟨q, 0, none⟩) N N]
  row : Blk wr q 3 (rowA N f).toArray
  below : Below w.heap.size w wr
  hb : w.heap.size ≤ b
  hq : w.heap.size ≤ q
section
variable {w wr w' : World} {b q N : Nat} {f : Nat → Int}
theorem LabM.alloc (h : LabM w wr b q N f) (o : Obj) : LabM w (wr.alloc o) b q N f := ⟨h.box.alloc o, h.row.alloc o, h.below.alloc h.below.size o, h.hb, h.hq⟩
theorem LabM.later (h : LabM w wr b q N f) (hb : Below wr.heap.size wr w') : LabM w w' b q N f := ⟨h.box.below hb h.box.lt, h.row.below hb h.row.lt, h.below.trans (hb.mono h.below.size), h.hb, h.hq⟩
theorem LabM.set_ (h : LabM w wr b q N f) {x : Nat} (hx : x < N) (d : Int) : LabM w (wr.setCell ⟨q, x, none⟩ (.int .i64 d)) b q N (setF f x d) :=
  ⟨h.box.far (p := ⟨q, x, none⟩) (Blk.ne_ h.box h.row (by decide)) _, by rw [← rowA_set f hx]; exact h.row.set_ x _, h.below.setCell (p := ⟨q, x, none⟩) h.hq _, h.hb, h.hq⟩
theorem LabM.cell (h : LabM w wr b q N f) {x : Nat} (hx : x < N) : wr.cell? ⟨q, x, none⟩ = some (.int .i64 (f x)) := (Blk.cell h.row x).trans (rowA_get f hx)
theorem LabM.congr {f' : Nat → Int} (h : LabM w wr b q N f) (e : ∀ x, x < N → f x = f' x) : LabM w wr b q N f' := by
  have : rowA N f = rowA N f' := by unfold rowA; exact List.map_congr_left fun x hx => by rw [e x (List.mem_range.1 hx)]
  exact ⟨h.box, this ▸ h.row, h.below, h.hb, h.hq⟩
theorem LabM.start (w : World) (N : Nat) : LabM w ((w.alloc (.cells (madeCells #[.int .i64 0] N) 3)).alloc (.cells #[.slice (some ⟨w.heap.size, 0, none⟩) N N] 26)) (w.heap.size + 1) w.heap.size N (fillF 0) := by
  have k1 : Blk (w.alloc (.cells (madeCells #[.int .i64 0] N) 3)) w.heap.size 3 (rowA N (fillF 0)).toArray := by rw [madeCells_zero]; exact Blk.new w _ _
  have k2 := Blk.new (w.alloc (.cells (madeCells #[.int .i64 0] N) 3)) 26 #[.slice (some ⟨w.heap.size, 0, none⟩) N N]
  rw [World.size_alloc] at k2
  exact ⟨k2, k1.alloc _, ((Below.refl _ w).alloc (Nat.le_refl _) _).alloc (by simp) _, by omega, Nat.le_refl _⟩
theorem LabM.turn (h : LabM w wr b q N f) {mine : Nat → Prop} {B : Nat} {row : Option Nat} (hg : wr.grownBy w' row) (hr : ∀ r, row = some r → mine r ∨ (B ≤ r ∧ ∃ o : Obj, wr.heap[r]? = some o ∧ o.isCells = false)) (hm : ∀ r, ¬ mine r) (hB : w.heap.size ≤ B) : LabM w w' b q N f :=
  ⟨h.box.turn hg hr (hm _), h.row.turn hg hr (hm _), h.below.grown hg h.below.size (fun k e => by
    rcases hr k e with h1 | h1
    · exact absurd h1 (hm k)
    · omega), h.hb, h.hq⟩
end
theorem put_blk {W : World} {g l : Nat} {t : TypeId} {cs : Array Value} {o o' : Obj} (h : Blk W g t cs) (hl : W.heap[l]? = some o) (ho : o.isCells = false) : Blk (W.putObj l o') g t cs :=
  (World.putObj_heap_other (fun e => by subst e; unfold Blk at h; rw [h] at hl; injection hl with hl; subst hl; simp [Obj.isCells] at ho)).trans h
/-- Marks of loops that are done. -/
def Marks (B : Nat) : List Deferred → World → Prop
  | [], _ => True
  | d :: ds, W => (∃ D, d.target = .collected D ∧ B ≤ D ∧ W.heap[D]? = some (.deferred (some [])) ∧ ∀ d' ∈ ds, d'.target ≠ .collected D) ∧ Marks B ds W
theorem Marks.keep {B : Nat} : ∀ {ds : List Deferred} {W W' : World}, Marks B ds W → (∀ d ∈ ds, ∀ D, d.target = .collected D → W.heap[D]? = some (.deferred (some [])) → W'.heap[D]? = some (.deferred (some []))) → Marks B ds W'
  | [], _, _, _, _ => trivial
  | d :: ds, _, _, ⟨⟨D, h1, h2, h3, h4⟩, h5⟩, hk => ⟨⟨D, h1, h2, hk d (by simp) D h1 h3, h4⟩, h5.keep fun d' hd' D' h6 h7 => hk d' (by simp [hd']) D' h6 h7⟩
theorem Marks.later {B : Nat} {ds : List Deferred} {W W' : World} (h : Marks B ds W) (hb : Below W.heap.size W W') : Marks B ds W' :=
  h.keep fun _ _ _ _ h7 => (hb.block _ (Array.getElem?_eq_some_iff.1 h7).1).trans h7
theorem Marks.others {B : Nat} {ds : List Deferred} {W W' : World} (h : Marks B ds W) (hk : KeepsOthers W W') : Marks B ds W' := h.keep fun _ _ D _ h7 => hk.same D _ h7 rfl
theorem Marks.lt {B : Nat} : ∀ {ds : List Deferred} {W : World}, Marks B ds W → ∀ d ∈ ds, ∀ D, d.target = .collected D → D < W.heap.size
  | [], _, _, d, hd, _, _ => by cases hd
  | d0 :: ds, W, ⟨⟨D0, h1, h2, h3, h4⟩, h5⟩, d, hd, D, hD => by
    rcases List.mem_cons.1 hd with rfl | hd
    · rw [h1] at hD; injection hD with hD; subst hD; exact (Array.getElem?_eq_some_iff.1 h3).1
    · exact Marks.lt h5 d hd D hD
theorem leaves_marks {F : Fence} {n : Nat} {P : Program} {fn : Func} {tmps : Array Value} {R : Ending → World → Prop} {B : Nat} (Pq : World → Prop)
    (hP : ∀ W D, Pq W → B ≤ D → W.heap[D]? = some (.deferred (some [])) → Pq (W.putObj D (.deferred none))) (hend : ∀ W, Pq W → LeavesIn F n P fn tmps R [] .returning W) :
    ∀ (ds : List Deferred) (W : World), Marks B ds W → Pq W → LeavesInM F n P fn tmps R ds .returning W
  | [], W, _, h => hend W h
  | d :: ds, W, ⟨⟨D, h1, h2, h3, h4⟩, h5⟩, h => ⟨by simp, .inl ⟨D, _, h1, run_takeDeferred h3, leaves_marks Pq hP hend ds _ (h5.keep fun d' hd' D' h6 h7 => by
      have hne : D ≠ D' := fun e => h4 d' hd' (e ▸ h6)
      exact (World.putObj_heap_other hne.symm).trans h7) (hP W D h h2 h3)⟩⟩
/-- What Labels answers. -/
noncomputable def labO : Option Pts → List Int
  | none => []
  | some M => labelsS M
noncomputable def labF : Option Pts → Nat → Nat → Int
  | none => fun _ _ => -1
  | some M => labK M
theorem labO_eq (om : Option Pts) : labO om = (List.range (lenO om)).map (labF om (lenO om)) := by cases om <;> rfl
theorem labF_zero (om : Option Pts) (b : Nat) : labF om 0 b = -1 := by
  cases om with
  | none => rfl
  | some M => exact labK_zero M b
theorem GoodO.few {om : Option Pts} (hG : GoodO om) : lenO om ≤ 128 := by
  cases om with
  | none => exact Nat.zero_le _
  | some M => exact (hG M rfl).few
theorem selL_mem {n : Nat} {p : Nat → Bool} {x : Nat} : x ∈ selL n p ↔ x < n ∧ p x = true := by unfold selL; rw [List.mem_filter, List.mem_range]
open Classical in
noncomputable def overF (f : Nat → Int) (pre : List Nat) (i : Int) : Nat → Int := fun x => if x ∈ pre then i else f x
theorem overF_nil (f : Nat → Int) (i : Int) : overF f [] i = f := by funext x; unfold overF; rw [if_neg (by simp)]
theorem overF_snoc (f : Nat → Int) (pre : List Nat) (x : Nat) (i : Int) : setF (overF f pre i) x i = overF f (pre ++ [x]) i := by
  funext v
  unfold setF overF
  by_cases h : v = x
  · subst h; rw [if_pos rfl, if_pos (by simp)]
  · rw [if_neg h]
    by_cases h2 : v ∈ pre
    · rw [if_pos h2, if_pos (by simp [h2])]
    · rw [if_neg h2, if_neg (by simp [h, h2])]
set_option maxRecDepth 20000 in
set_option maxHeartbeats 8000000 in
theorem labelsP_any (p : Option Addr) (om : Option Pts) (w : World) (h : MapO w p om) (hG : GoodO om) :
    Calls Tryd.prog 42 #[.pointer p] w (GivesI w (labO om)) := by
  have hlen := callsIn_wide (n := 3).2 (lenP_any p om w h)
  have hfew := hG.few
  have hone : ∀ i, i < lenO om → ∃ g M, p = some ⟨g, 0, none⟩ ∧ om = some M ∧ MapAt w g M ∧ GoodM M := by
    intro i hi
    obtain ⟨g, M, k, h1, h2, h3, h4, _⟩ := inO_open h hG (a := (i : Int)) ⟨by omega, by omega⟩
    exact ⟨g, M, h1, h2, h3, h4⟩
  rw [labO_eq]
  have hf0 := labF_zero om
  have hfs : ∀ M, om = some M → labF om = labK M := fun M e => by rw [e]; rfl
  have hNs : ∀ M, om = some M → M.names.length = lenO om := fun M e => by rw [e]; rfl
  have HF0 := Lib.hid hf0; have HONE := Lib.hid hone; have HFS := Lib.hid hfs; have HNS := Lib.hid hNs
  clear h hG hone hf0 hfs hNs
  generalize labF om = f at *
  generalize lenO om = N at *
  have hmk := fun W => run_make_row' (P := Tryd.prog) 26 3 (.int .i64 0) 8 Tryd.underlying26 (by kernel_rfl) rfl .i64 .i64 N (by omega) (by omega) W
  have HS := Lib.hid (LabM.start w N)
  refine (callsIn_wide (n := 4)).1 ?_
  refine callsIn_of_wp_marks Tryd.func42 rfl trivial ?_ rfl
  simp only [Tryd.ntmps42, List.size_toArray, List.length_cons, List.length_nil, Nat.reduceAdd, Nat.reduceSub, Array.replicate_succ, Array.replicate_zero, List.push_toArray, List.append_toArray, List.nil_append, List.cons_append]
  gi_wp2_with fail
  refine ⟨trivial, hlen.mono ?_⟩
  rintro e w' ⟨rfl, rfl⟩
  gi_wp2
  gi_loopw [13] (fun i wr => ∃ j : Nat, j ≤ N ∧ i = .int .i64 j ∧ LabM w wr (w.heap.size + 1) w.heap.size N (fillF j)) (fun i _ => N - (intOf i).toNat)
  case atStart => exact ⟨0, by omega, rfl, HS.out⟩
  case round =>
    obtain ⟨j, hj, rfl, hF⟩ := hrel
    have HF := Lib.hid hF
    have hcb := hF.box.cell 0
    simp only [List.getElem?_toArray, List.getElem?_cons_zero] at hcb
    clear hF HS
    by_cases hlt : j < N
    · have hcq := HF.out.cell hlt
      have hfz := HF.out.row.frozen j
      gi_wp2
      go_roundw
      case rel => exact ⟨j + 1, by omega, by go_num, by rw [← fillF_step]; exact HF.out.set_ hlt (-1)⟩
      case measure => simp [intOf]; omega
    · obtain rfl : N = j := by omega
      gi_wp2
      refine wpIn_loop_ghost_k (fun k a' wr => ∃ u5 u6 u7 u23 u24 u25 u26 u27 u28 u29 u30 u31 u32 u33 u34 u35 u36 u37 u38 u39 u40 u41 u42, ∃ (ds : List Deferred) (i : Nat), a' = { tmps := #[.pointer p, undef, .slice none 0 0, .pointer (some ⟨w.heap.size + 1, 0, none⟩), u4, u5, u6, u7, .pointer p, .int .i64 (N : Int), .slice (some ⟨w.heap.size, 0, none⟩) N N, .slice (some ⟨w.heap.size, 0, none⟩) N N, .int .i64 (N : Int), .int .i64 (N : Int), .bool false, u15, u16, u17, u18, u19, .slice (some ⟨w.heap.size, 0, none⟩) N N, .int .i64 (N : Int), .int .i64 (i : Int), u23, u24, u25, u26, u27, u28, u29, u30, u31, u32, u33, u34, u35, u36, u37, u38, u39, u40, u41, u42], defers := ds } ∧ i + k = N ∧ LabM w wr (w.heap.size + 1) w.heap.size N (f i) ∧ Marks w.heap.size ds wr) N ?start ?round
      case start => exact ⟨_, _, _, _, _, _, _, _, _, _, _, _, _, _, _, _, _, _, _, _, _, _, _, [], 0, rfl, by omega, HF.out.congr (fun x hx => by unfold fillF; rw [if_pos hx, HF0.out]), trivial⟩
      case round =>
        clear hcb HF
        rintro gk a' wr ⟨u5, u6, u7, u23, u24, u25, u26, u27, u28, u29, u30, u31, u32, u33, u34, u35, u36, u37, u38, u39, u40, u41, u42, ds, i, rfl, hik, hL, hmk2⟩ J K hJ hK
        have hcb := hL.box.cell 0
        simp only [List.getElem?_toArray, List.getElem?_cons_zero] at hcb
        have HL := Lib.hid hL; have HMK := Lib.hid hmk2; have HIK := Lib.hid hik; have HJ := Lib.hid hJ
        clear hL hmk2 hJ
        by_cases hlt2 : i < N
        · obtain ⟨g, M, rfl, homM, hM, hGM⟩ := HONE.out i hlt2
          have hNM := HNS.out M homM
          have hfM := HFS.out M homM
          have hL1 := HL.out.alloc (.cells #[.int .i64 (i : Int)] 3)
          have h5 := Blk.new wr 3 #[.int .i64 (i : Int)]
          have hcb1 := hL1.box.cell 0
          have hc5 := h5.cell 0
          simp only [List.getElem?_toArray, List.getElem?_cons_zero] at hcb1 hc5
          have hcx := hL1.cell hlt2
          have hiI : (i : Int) < (N : Int) := by omega
          have hbal : Below wr.heap.size wr (wr.alloc (.cells #[.int .i64 (i : Int)] 3)) := (Below.refl _ _).alloc (Nat.le_refl _) _
          have hM1 := hM.below hL1.below
          have HL1 := Lib.hid hL1; have H5 := Lib.hid h5; have HMK1 := Lib.hid (HMK.out.later hbal); have HHM := Lib.hid hM1; have HGM := Lib.hid hGM; have HNM := Lib.hid hNM; have HFM := Lib.hid hfM
          clear hL1 h5 hM hGM hfM homM hM1 hbal hcb
          by_cases hneg : f i i < 0
          · have hf := from_any g M i _ HHM.out HGM.out (by rw [hNM]; exact hlt2)
            unfold RowPost at hf
            rw [hNM] at hf
            clear hNM
            have hfI := callsIn_wide (n := 3).2 hf
            gi_wp2_with fail
            refine ⟨trivial, hfI.mono ?_⟩
            rintro e w1 ⟨qd, rfl, hq, hrow, hb1⟩
            have hL2 := (HL1.out.later hb1).alloc (.cells #[.slice (some ⟨qd, 0, none⟩) N N] 113)
            have h52 := (H5.out.below hb1 H5.out.lt).alloc (.cells #[.slice (some ⟨qd, 0, none⟩) N N] 113)
            have hrow2 := hrow.alloc (.cells #[.slice (some ⟨qd, 0, none⟩) N N] 113)
            have h6 := Blk.new w1 113 #[.slice (some ⟨qd, 0, none⟩) N N]
            have hb2 := hb1.alloc hb1.size (.cells #[.slice (some ⟨qd, 0, none⟩) N N] 113)
            have hmk2 := HMK1.out.later hb2
            have hM2 := HHM.out.below hb2
            have HL2 := Lib.hid hL2; have H52 := Lib.hid h52; have HR2 := Lib.hid hrow2; have H6 := Lib.hid h6; have HMK2 := Lib.hid hmk2; have HM2 := Lib.hid hM2
            clear hL2 h52 hrow2 h6 hmk2 hM2 hb2 hb1 hrow hf hfI
            obtain ⟨w2, hw2⟩ : ∃ w2, w1.alloc (.cells #[.slice (some ⟨qd, 0, none⟩) N N] 113) = w2 := ⟨_, rfl⟩
            rw [hw2] at HL2 H52 HR2 H6 HMK2 HM2
            have hwh := callsIn_wide (n := 3).2 (where_any (some ⟨g, 0, none⟩) 72 #[.pointer (some ⟨w1.heap.size, 0, none⟩)] w2)
            gi_wp2_with fail
            refine ⟨trivial, hwh.mono ?_⟩
            rintro e w3 ⟨rfl, hw3⟩
            have hbm := (Blk.new w2 27 #[.pointer (some ⟨g, 0, none⟩)]).alloc (.cells #[.func (.func 72) #[] #[.pointer (some ⟨w1.heap.size, 0, none⟩)]] 118)
            have hbi := Blk.new (w2.alloc (.cells #[.pointer (some ⟨g, 0, none⟩)] 27)) 118 #[.func (.func 72) #[] #[.pointer (some ⟨w1.heap.size, 0, none⟩)]]
            have hb3 : Below w2.heap.size w2 w3 := by rw [hw3]; exact ((Below.refl _ w2).alloc (Nat.le_refl _) _).alloc (by rw [World.size_alloc]; omega) _
            rw [World.size_alloc] at hbi
            rw [← hw3] at hbm hbi
            have h63 := H6.out.below hb3 H6.out.lt
            have hr3 := HR2.out.below hb3 HR2.out.lt
            have hit := iterW g M _ (w2.heap.size + 1) 72 #[.pointer (some ⟨w1.heap.size, 0, none⟩)] N (fun x => decide (0 ≤ distM M i x)) w3 (HM2.out.below hb3) HNM.out hfew hbm (enters_of Tryd.func72 (by kernel_rfl) rfl)
              (fun W => Blk W (w2.heap.size + 1) 118 #[.func (.func 72) #[] #[.pointer (some ⟨w1.heap.size, 0, none⟩)]] ∧ Blk W w1.heap.size 113 #[.slice (some ⟨qd, 0, none⟩) N N] ∧ Blk W qd 2 (rowA N (distM M i)).toArray)
              (fun W hW => ⟨hbi.below hW hbi.lt, h63.below hW h63.lt, hr3.below hW hr3.lt⟩) (fun W k h => h) (fun W h => ⟨h.1, fun x hx => labels1_fn (distM M i) W h.2.1 h.2.2 W x hx (Below.refl _ _)⟩)
            have hL3 := HL2.out.later hb3
            have h53 := H52.out.below hb3 H52.out.lt
            have hmk3 := HMK2.out.later hb3
            have HIT := Lib.hid hit; have HL3 := Lib.hid hL3; have H53 := Lib.hid h53; have HMK3 := Lib.hid hmk3
            clear hit hL3 h53 hmk3 hbm hbi hb3 hw3 hwh hw2 h63 hr3
            gi_wp2
            refine range_law (gf := 94) (lb := #[.pointer (some ⟨w2.heap.size, 0, none⟩), .pointer (some ⟨w2.heap.size + 1, 0, none⟩)]) rfl (enters_of Tryd.func94 (by kernel_rfl) rfl) HIT.out (fun r h => h.elim)
              (fun h k => fun a => k (h a)) (fun W l o o' hl h hoc => fun a => ⟨put_blk a.1 h hoc, put_blk a.2.1 h hoc, put_blk a.2.2 h hoc⟩) (Below.refl _ _) (fun _ => rfl)
              (fun pre W => LabM w W (w.heap.size + 1) w.heap.size N (overF (f i) (pre.map Fin.val) i) ∧ Marks w.heap.size ds W ∧ Blk W wr.heap.size 3 #[.int .i64 (i : Int)])
              (fun _ _ _ => False)
              ?hI ?hIx ?h0 (fun (x : Fin N) => { tmps := #[.pointer (some ⟨g, 0, none⟩), undef, .slice none 0 0, .pointer (some ⟨w.heap.size + 1, 0, none⟩), u4, .pointer (some ⟨wr.heap.size, 0, none⟩), .pointer (some ⟨w1.heap.size, 0, none⟩), .int .i64 (x.val : Int), .pointer (some ⟨g, 0, none⟩), .int .i64 (N : Int), .slice (some ⟨w.heap.size, 0, none⟩) N N, .slice (some ⟨w.heap.size, 0, none⟩) N N, .int .i64 (N : Int), .int .i64 (N : Int), .bool false, u15, u16, u17, u18, u19, .slice (some ⟨w.heap.size, 0, none⟩) N N, .int .i64 (N : Int), .int .i64 (i : Int), .bool true, .int .i64 (i : Int), .slice (some ⟨w.heap.size, 0, none⟩) N N, .int .i64 (i : Int), .pointer (some ⟨w.heap.size, i, none⟩), .int .i64 (f i i), .bool (decide (0 ≤ f i i)), .pointer (some ⟨g, 0, none⟩), .int .i64 (i : Int), .slice (some ⟨qd, 0, none⟩) N N, .pointer (some ⟨g, 0, none⟩), .func (.func 72) #[] #[.pointer (some ⟨w1.heap.size, 0, none⟩)], .func (.func 94) #[] #[.pointer (some ⟨w2.heap.size, 0, none⟩), .pointer (some ⟨w2.heap.size + 1, 0, none⟩)], .int .i64 (x.val : Int), u37, u38, u39, u40, u41, u42], defers := [] }) ?assign ?body ?done ?stop
            case hI =>
              rintro pre A B row ⟨h1, h2, h3⟩ hg hr
              refine ⟨h1.turn hg hr (fun _ h => h) (HL3.out.below.size), h2.keep fun d hd D hD h7 => ?_, h3.turn hg hr (fun h => h)⟩
              refine (hg.block D (Array.getElem?_eq_some_iff.1 h7).1 (fun e => ?_)).trans h7
              have := HMK3.out.lt d hd D hD
              rcases hr D e.symm with h | ⟨h, _⟩
              · exact h
              · omega
            case hIx => exact fun c s W W' row h _ _ => h
            case h0 => exact ⟨by rw [List.map_nil, overF_nil]; exact HL3.out, HMK3.out, H53.out⟩
            case assign =>
              intro l x W K hK
              gi_wp2
              exact hK
            case body =>
              rintro l pre x W hWsz ⟨h1, h2, h3⟩ hlen
              have kb := h1.box.cell 0
              have k5 := h3.cell 0
              simp only [List.getElem?_toArray, List.getElem?_cons_zero] at kb k5
              have kx := h1.cell x.isLt
              have kf := h1.row.frozen x.val
              have hxI : (x.val : Int) < (N : Int) := by have := x.isLt; omega
              have H1 := Lib.hid h1; have H2 := Lib.hid h2; have H3 := Lib.hid h3
              have hxl := x.isLt
              clear h1 h2 h3
              gi_wp2
              have hk : KeepsOthers W (W.setCell ⟨w.heap.size, x.val, none⟩ (.int .i64 (i : Int))) := KeepsOthers.setCell _ _ _
              refine ⟨hk, ?_, ?_, H2.out.others hk, H3.out.far (p := ⟨w.heap.size, x.val, none⟩) ?_ _⟩
              · exact fun a => ⟨a.1.far (p := ⟨w.heap.size, x.val, none⟩) (Blk.ne_ a.1 H1.out.row (by decide)) _, a.2.1.far (p := ⟨w.heap.size, x.val, none⟩) (Blk.ne_ a.2.1 H1.out.row (by decide)) _, a.2.2.far (p := ⟨w.heap.size, x.val, none⟩) (Blk.ne_ a.2.2 H1.out.row (by decide)) _⟩
              · rw [List.map_append, List.map_singleton, ← overF_snoc]
                exact H1.out.set_ hxl _
              · have := HL.out.row.lt
                show wr.heap.size ≠ w.heap.size
                omega
            case done =>
              rintro D xs W hD hxs ⟨h1, h2, h3⟩ hKD
              have hfi : ∀ x, x < N → overF (f i) (xs.map Fin.val) i x = f (i + 1) x := by
                intro x hx
                rw [hxs]
                unfold overF
                rw [HFM.out] at hneg ⊢
                rw [labK_take HGM.out hneg]
                by_cases hd : 0 ≤ distM M i x
                · rw [if_pos hd, if_pos (selL_mem.2 ⟨hx, decide_eq_true hd⟩)]
                · rw [if_neg hd, if_neg (fun hm => hd (of_decide_eq_true (selL_mem.1 hm).2))]
              have HL4 := Lib.hid (h1.congr hfi)
              have HMK4 := Lib.hid h2
              have HKD := Lib.hid hKD
              clear h1 h2 h3 hfi hxs hKD
              gi_wp2
              exact ⟨gk - 1, by omega, HJ.out _ _ _ ⟨_, _, _, _, _, _, _, _, _, _, _, _, _, _, _, _, _, _, _, _, _, _, _, _, i + 1, rfl, by have := HIK.out; omega, HL4.out, ⟨⟨D, rfl, by have := HL3.out.below.size; omega, HKD.out, fun d' hd' e => by have := HMK3.out.lt d' hd' D e; omega⟩, HMK4.out⟩⟩⟩
            case stop =>
              rintro D c pre W hD hpre h hK
              exact h.elim
          · have hneg' : ¬ f i i < 0 := hneg
            have hskip : ∀ x, f i x = f (i + 1) x := fun x => by
              have := HFM.out
              rw [this] at hneg' ⊢
              exact (labK_skip HGM.out hneg' x).symm
            have HSK := Lib.hid hskip
            clear hskip hNM
            gi_wp2
            exact ⟨gk - 1, by omega, HJ.out _ _ _ ⟨_, _, _, _, _, _, _, _, _, _, _, _, _, _, _, _, _, _, _, _, _, _, _, ds, i + 1, rfl, by have := HIK.out; omega, HL1.out.congr (fun x _ => HSK.out x), HMK1.out⟩⟩
        · obtain rfl : i = N := by omega
          gi_wp2
          refine leaves_marks (B := w.heap.size) (fun W => LabM w W (w.heap.size + 1) w.heap.size i (f i)) (fun W D h hD hDe => ?_) (fun W h => ?_) ds wr HMK.out HL.out
          · exact h.turn (mine := fun _ => False) (B := w.heap.size) (grownBy_putObj' W D _) (fun r e => by cases e; exact .inr ⟨hD, _, hDe, rfl⟩) (fun _ h => h) (Nat.le_refl _)
          · refine ⟨.slice (some ⟨w.heap.size, 0, none⟩) i i, by simp [results, Tryd.results42, go_sem], ?_⟩
            refine ⟨_, rfl, ⟨by simp, .inr ⟨w.heap.size, i, _, by simp, Nat.le_refl _, h.row, by simp, by unfold maxLen; omega, by simp [rowA], ?_⟩⟩, h.below⟩
            simp only [rowA, List.map_map, Function.comp_def, Nat.mul_one]
            exact List.take_of_length_le (by simp)
end Go.Proofs.YtgimhjkijpcgjaaDoor
namespace Go.Proofs.YtgimhjkijpcgjaaDoor
open Go.RowKit Go.Lib

noncomputable def midO : Option Pts → Int × Bool
  | none => (0, false)
  | some M => midS M
noncomputable def midF : Option Pts → Nat → Int × Int
  | none => fun _ => (-1, 0)
  | some M => midK M
theorem foldl_max_le (l : List Int) : ∀ a, a ≤ l.foldl max a := by
  induction l with
  | nil => intro a; exact Int.le_refl _
  | cons x l ih => intro a; exact Int.le_trans (by show a ≤ max a x; omega) (ih (max a x))
theorem maxOf_low (x : Int) (l : List Int) (h : -1 ≤ x) : Lib.maxOf (x :: l) = (x :: l).foldl max (-1) := by
  show (x :: l).foldl max x = _
  rw [List.foldl_cons, List.foldl_cons]
  congr 1
  omega
theorem minOf_neg (l : List Int) (hl : l ≠ []) : Lib.minOf l < 0 ↔ ∃ x ∈ l, x < 0 := by
  cases l with
  | nil => exact absurd rfl hl
  | cons x l =>
    have key : ∀ (l : List Int) (a : Int), l.foldl min a < 0 ↔ a < 0 ∨ ∃ x ∈ l, x < 0 := by
      intro l
      induction l with
      | nil => intro a; simp
      | cons y l ih =>
        intro a
        rw [List.foldl_cons, ih]
        simp only [List.mem_cons, exists_eq_or_imp]
        constructor
        · rintro (h | h)
          · by_cases h1 : a < 0
            · exact .inl h1
            · exact .inr (.inl (by omega))
          · exact .inr (.inr h)
        · rintro (h | h | h)
          · exact .inl (by omega)
          · exact .inl (by omega)
          · exact .inr h
    show (x :: l).foldl min x < 0 ↔ _
    rw [key]
    simp
theorem ecc_eq {M : Pts} (hM : GoodM M) (a : Nat) (h0 : 0 < M.names.length) : Lib.maxOf ((List.range M.names.length).map (distM M a)) = eccM M a := by
  obtain ⟨k, hk⟩ : ∃ k, M.names.length = k + 1 := ⟨M.names.length - 1, by omega⟩
  show _ = ((List.range M.names.length).map (distM M a)).foldl max (-1)
  rw [hk, List.range_succ_eq_map, List.map_cons]
  exact maxOf_low _ _ (hM.low a 0)
theorem ecc_low (M : Pts) (a : Nat) : -1 ≤ eccM M a := foldl_max_le _ _
theorem row_min {M : Pts} (a : Nat) (h0 : 0 < M.names.length) : Lib.minOf ((List.range M.names.length).map (distM M a)) < 0 ↔ ∃ b, b < M.names.length ∧ distM M a b < 0 := by
  rw [minOf_neg _ (by intro e; have := congrArg List.length e; simp only [List.length_map, List.length_range, List.length_nil] at this; omega)]
  constructor
  · rintro ⟨x, hx, h⟩
    obtain ⟨b, hb, rfl⟩ := List.mem_map.1 hx
    exact ⟨b, List.mem_range.1 hb, h⟩
  · rintro ⟨b, hb, h⟩
    exact ⟨_, List.mem_map.2 ⟨b, List.mem_range.2 hb, rfl⟩, h⟩
end Go.Proofs.YtgimhjkijpcgjaaDoor
