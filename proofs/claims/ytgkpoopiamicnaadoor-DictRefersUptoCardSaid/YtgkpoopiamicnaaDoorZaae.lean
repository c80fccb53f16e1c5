/-
  layer 39, New. Conditions: at most 1000 texts of at most 3,000 bytes in all; the cell of the library's MaxLen holds some int.
-/
import Derived.Test.YtgkpoopiamicnaaDoorZaab
import Derived.StillTailTactics
import Derived.Test.YtgkpoopiamicnaaDoorZaaa
namespace Go.Proofs.YtgkpoopiamicnaaDoor
open Go.RowKit

/-- The cells of the program's alphabet. -/
def AlphCells (cs : Array Value) (v : Value) (mb : Nat) (m : UInt8 → Int) : Prop :=
  cs.size = 258 ∧ cs[0]? = some v ∧ cs[1]? = some (.map (some mb)) ∧ ∀ b : UInt8, cs[2 + b.toNat]? = some (.int .i64 (m b))
/-- The program's alphabet in block g. -/
def Alph (w : World) (g : Nat) (gs : List (List ByteArray)) : Prop :=
  ∃ base v mb cnt cs, Blk w g 74 cs ∧ AlphCells cs v mb (mostF (ents gs)) ∧ OwnM w base 22 9 v (strM gs) ∧ MapSI w mb cnt (placeF (ents gs))
theorem Alph.below {w w' : World} {g : Nat} {gs : List (List ByteArray)} (h : Alph w g gs) (hb : Below w.heap.size w w') : Alph w' g gs := by
  obtain ⟨base, v, mb, cnt, cs, h1, h2, h3, h4⟩ := h
  exact ⟨base, v, mb, cnt, cs, h1.below hb h1.lt, h2, h3.below hb, h4.below hb⟩
/-- What the program's New hands back. -/
def NewPost (w : World) (ss : List ByteArray) (e : Ending) (w' : World) : Prop :=
  (newErr ss ≠ 0 → e = .returned (.tuple #[.pointer none, .int .i64 (newErr ss)])) ∧
  (newErr ss = 0 → ∃ g, e = .returned (.tuple #[.pointer (some ⟨g, 0, none⟩), .int .i64 0]) ∧ Alph w' g (groupsB ss) ∧ GoodG (groupsB ss)) ∧ Below w.heap.size w w'

theorem alphCells0 (mb : Nat) : AlphCells (Tryd.zeroCells74.setIfInBounds 1 (.map (some mb))) (.slice none 0 0) mb (mostF []) := by
  have h0 : Tryd.zeroCells74 = #[.slice none 0 0, .map none] ++ Array.replicate 256 (.int .i64 0) := by kernel_rfl
  rw [h0]
  refine ⟨by simp, by simp, by simp, fun b => ?_⟩
  have hb := b.toNat_lt
  rw [Array.getElem?_setIfInBounds_ne (by omega), Array.getElem?_append_right (by simp)]
  rw [Array.getElem?_replicate, if_pos (by simp; omega)]; rfl
theorem totalP_eq (ss : List ByteArray) : totalP ss = (ss.map (fun s => (bl s).count 32)).sum + ss.length := by
  unfold totalP groupsB
  induction ss with
  | nil => rfl
  | cons a l ih => simp only [List.map_cons, List.flatten_cons, List.length_append, List.sum_cons, List.length_cons, piecesB_length] at ih ⊢; omega
def spaces (ss : List ByteArray) : Nat := (ss.map (fun s => (bl s).count 32)).sum
theorem spaces_succ (ss : List ByteArray) (k : Nat) (hk : k < ss.length) : spaces (ss.take (k + 1)) = spaces (ss.take k) + (bl ss[k]).count 32 := by
  unfold spaces
  rw [List.take_succ_eq_append_getElem hk, List.map_append, List.sum_append]; simp
theorem spaces_le (ss : List ByteArray) (k : Nat) : spaces (ss.take k) ≤ spaces ss := by
  unfold spaces
  conv => rhs; rw [← List.take_append_drop k ss, List.map_append, List.sum_append]
  omega
theorem spaces_total (ss : List ByteArray) : spaces ss ≤ totalS ss := by
  unfold spaces totalS
  induction ss with
  | nil => simp
  | cons a l ih =>
    have := List.count_le_length (a := (32 : UInt8)) (l := bl a)
    rw [bl_len] at this
    simp only [List.map_cons, List.sum_cons]; omega

/-- The state of New's second loop: the entries so far. -/
def NewSt (w : World) (mb g base : Nat) (v : Value) (gs : List (List ByteArray)) (es : List (ByteArray × Nat)) (tw : Bool) : Prop :=
  (∃ cs, Blk w g 74 cs ∧ AlphCells cs v mb (mostF es)) ∧ OwnM w base 22 9 v (strM gs) ∧ MapSI w mb es.length (placeF es) ∧ (∀ e ∈ es, letterB (bl e.1) = true) ∧ tw = dupB (es.map Prod.fst)
theorem NewSt.below {w w' : World} {mb g base : Nat} {v : Value} {gs : List (List ByteArray)} {es : List (ByteArray × Nat)} {tw : Bool} (h : NewSt w mb g base v gs es tw) (hb : Below w.heap.size w w') : NewSt w' mb g base v gs es tw := by
  obtain ⟨⟨cs, h1, h2⟩, h3, h4, h5⟩ := h
  exact ⟨⟨cs, h1.below hb h1.lt, h2⟩, h3.below hb, h4.below hb, h5⟩
theorem dupB_snoc (es : List (ByteArray × Nat)) (x : ByteArray) : dupB (es.map Prod.fst ++ [x]) = (dupB (es.map Prod.fst) || (placeF es x).isSome) := by
  unfold dupB
  rw [Bool.eq_iff_iff]
  simp only [decide_eq_true_eq, Bool.or_eq_true, placeF_isSome, List.nodup_append, List.mem_singleton]
  generalize es.map Prod.fst = l
  constructor
  · intro h
    by_cases h1 : l.Nodup
    · refine .inr ?_
      by_cases h2 : x ∈ l
      · exact h2
      · exact absurd ⟨h1, by simp, fun a ha b hb e => h2 (by rw [← hb, ← e]; exact ha)⟩ h
    · exact .inl h1
  · rintro (h | h) ⟨h1, _, h2⟩
    · exact h h1
    · exact h2 x h x rfl rfl

theorem NewSt.step {wr w2 w3 : World} {mb g base : Nat} {v : Value} {gs : List (List ByteArray)} {es : List (ByteArray × Nat)} {tw : Bool} {x : ByteArray} {j : Nat} {b : UInt8} {mv : Int}
    (h : NewSt wr mb g base v gs es tw) (hmb : mb < base) (hgb : g < base) (hne : mb ≠ g) (hb2 : Below wr.heap.size wr w2) (hmap3 : MapSI w3 mb (es.length + 1) (fun t => if t = x then some (j : Int) else placeF es t)) (hg3 : w2.grownBy w3 (some mb))
    (hfb : firstB x = b) (hmv : mostF es b = mv) (hx : letterB (bl x) = true) :
    NewSt (w3.setCell ⟨g, 2 + b.toNat, none⟩ (.int .i64 (max mv x.size))) mb g base v gs (es ++ [(x, j)]) (tw || (placeF es x).isSome) := by
  obtain ⟨⟨cs, h1, h2⟩, h3, h4, h5, h6⟩ := h
  have k1 := (h1.below hb2 h1.lt).grown hg3 (fun e => hne (by injection e with e; exact e.symm))
  have k3 := (h3.below hb2).low hg3 (fun r e => by injection e with e; omega)
  refine ⟨⟨_, k1.set_ _ _, ?_⟩, k3.low (grown_setCell _ _ _) (fun r e => by cases e; exact hgb), ?_, ?_, ?_⟩
  · obtain ⟨a1, a2, a3, a4⟩ := h2
    have hb := b.toNat_lt
    refine ⟨by simpa using a1, by rw [Array.getElem?_setIfInBounds_ne (by omega)]; exact a2, by rw [Array.getElem?_setIfInBounds_ne (by omega)]; exact a3, fun b' => ?_⟩
    rw [mostF_snoc, moreM]
    by_cases e : b' = b
    · subst e
      rw [Array.getElem?_setIfInBounds_self_of_lt (by omega), if_pos hfb.symm, hmv]
    · rw [Array.getElem?_setIfInBounds_ne (fun he => e (UInt8.toNat_inj.1 (by omega))), if_neg (fun he => e (by rw [he, hfb]))]
      exact a4 b'
  · rw [List.length_append, List.length_singleton]
    have : placeF (es ++ [(x, j)]) = fun t => if t = x then some (j : Int) else placeF es t := by rw [placeF_snoc]; rfl
    rw [this]
    exact hmap3.kept (grown_setCell _ _ _) (fun e => hne (by injection e))
  · intro e he
    rw [List.mem_append, List.mem_singleton] at he
    rcases he with he | rfl
    · exact h5 e he
    · exact hx
  · rw [List.map_append, List.map_singleton, dupB_snoc, h6]

set_option maxRecDepth 20000 in
set_option maxHeartbeats 4000000 in
theorem new_any (A : Option Addr) (n c : Nat) (ss : List ByteArray) (w : World) (hm : MaxOk w) (hr : ReadS w w.heap.size A n ss) (hn : n ≤ 1000) (ht : totalS ss ≤ 3000) :
    Calls Tryd.prog 14 #[.slice A n c] w (NewPost w ss) := by
  obtain ⟨i0, hi, hz0, hz1, hz2⟩ := info_parts (show (Tryd.prog.info? 22).map (fun i => (i.zero, i.size, i.bytes)) = some (some (.slice none 0 0), 1, 24) by kernel_rfl)
  have hmm := @run_makeMap Tryd.prog
  have HL := Lib.hid hr.len
  have hst := spaces_total ss
  go_enter Tryd.func14, Tryd.ntmps14
  go_wp2
  go_loop [4, 20] (fun t i => ∃ k : Nat, k ≤ n ∧ i = .int .i64 k ∧ t = .int .i64 ((n + spaces (ss.take k) : Nat) : Int)) (fun _ i => n - (RowKit.intOf i).toNat)
  case atStart => exact ⟨0, by omega, rfl, by simp [spaces]⟩
  case round =>
    obtain ⟨k, hk, rfl, rfl⟩ := hrel
    by_cases hlt : k < n
    · have hks : k < ss.length := by rw [HL.out]; exact hlt
      obtain ⟨ad, rfl, had, hc0⟩ := hr.at_ (k := k) hks
      have hsp := spaces_succ ss k hks
      have hsl := spaces_le ss k
      have hsl2 := spaces_le ss (k + 1)
      have hcc := count_any ss[k] w
      rw [hsp] at hsl2
      have HSP := Lib.hid hsp; clear hsp
      generalize ss[k] = x at hc0 hcc hsl2 HSP
      generalize (bl x).count 32 = q at hcc hsl2 HSP
      go_wp2_with (go_at_call 36; refine hcc.mono ?_; rintro e w' ⟨rfl, rfl⟩)
      go_round
      case rel => exact ⟨k + 1, by omega, by go_num, by rw [HSP.out]; go_num⟩
      case measure => simp [RowKit.intOf]; omega
    · obtain rfl : k = n := by omega
      rw [show ss.take k = ss from List.take_of_length_le (by rw [HL.out]; exact Nat.le_refl _)]
      have htp : totalP ss = k + spaces ss := by rw [totalP_eq, spaces, HL.out]; omega
      by_cases hbig : 256 < k + spaces ss
      · have hE : newErr ss = 12 := by unfold newErr; rw [if_pos (by rw [htp]; exact hbig)]
        have HE := Lib.hid hE; clear hE htp
        go_wp2
        go_ret2
        exact ⟨fun _ => by rw [HE.out]; rfl, fun h => by rw [HE.out] at h; omega, Below.refl _ _⟩
      · have HE : Hid (newErr ss = if (groupsB ss).flatten.all (fun x => letterB (bl x)) = false then 15 else if dupB (groupsB ss).flatten then 6 else 0) := by
          unfold newErr Hid; rw [if_neg (by rw [htp]; exact hbig)]
        have HTP := Lib.hid htp; clear htp
        have hblk0 : Blk ((w.alloc (.map #[] 0)).alloc (.cells (Tryd.zeroCells74.setIfInBounds 1 (.map (some w.heap.size))) 74)) (w.heap.size + 1) 74 (Tryd.zeroCells74.setIfInBounds 1 (.map (some w.heap.size))) := by
          have := Blk.new (w.alloc (.map #[] 0)) 74 (Tryd.zeroCells74.setIfInBounds 1 (.map (some w.heap.size)))
          rwa [World.size_alloc] at this
        have hS0 : NewSt ((w.alloc (.map #[] 0)).alloc (.cells (Tryd.zeroCells74.setIfInBounds 1 (.map (some w.heap.size))) 74)) w.heap.size (w.heap.size + 1) (w.heap.size + 2) (.slice none 0 0) [] [] false :=
          ⟨⟨_, hblk0, alphCells0 _⟩, OwnM.nil_ _ _ _ _, (MapSI.made w).below ((Below.refl _ _).alloc (Nat.le_refl _) _), by simp, by simp [dupB]⟩
        have hb0 : Below w.heap.size w ((w.alloc (.map #[] 0)).alloc (.cells (Tryd.zeroCells74.setIfInBounds 1 (.map (some w.heap.size))) 74)) := ((Below.refl _ w).alloc (Nat.le_refl _) _).alloc (by simp) _
        clear hblk0
        have HS0 := Lib.hid hS0; have HB0 := Lib.hid hb0; clear hS0 hb0
        go_wp2
        go_loopw [8, 36] (fun t i wr => ∃ (j : Nat) (tw : Bool) (v : Value), j ≤ k ∧ i = .int .i64 j ∧ t = .bool tw ∧ NewSt wr w.heap.size (w.heap.size + 1) (w.heap.size + 2) v (groupsB (ss.take j)) (ents (groupsB (ss.take j))) tw ∧ Below w.heap.size w wr) (fun _ i _ => k - (RowKit.intOf i).toNat)
        case atStart => exact ⟨0, false, .slice none 0 0, by omega, rfl, rfl, HS0.out, HB0.out⟩
        case round =>
          obtain ⟨j, tw, v, hj, rfl, rfl, hS, hb⟩ := hrel
          have HS := Lib.hid hS; clear hS HS0 HB0
          by_cases hlt : j < k
          · have hks : j < ss.length := by rw [HL.out]; exact hlt
            obtain ⟨ad, rfl, had, hc0⟩ := hr.at_ (k := j) hks
            have hcr := (hb.cell (p := ad.add j) (by rw [block_of_add]; exact had)).trans hc0
            have hsz : ss[j].size ≤ 3000 := Nat.le_trans (totalS_mem (List.getElem_mem _)) ht
            have hsc := split_any39 ss[j] wr (hm.below (hb.mono (Nat.le_refl _))) (by omega)
            clear hc0
            go_wp2_with fail
            refine hsc.mono ?_
            rintro e w1 ⟨u, rfl, hu, hbu⟩
            obtain ⟨Au, cu, rfl, hcu1, hcu2⟩ := ownsRow_form hu
            have hu' := own_mono hu (show w.heap.size + 2 ≤ wr.heap.size by have := HS.out.1; obtain ⟨cs, h1, _⟩ := this; have := h1.lt; have := hb.size; omega)
            have hb1 := hb.trans (hbu.mono hb.size)
            have hS1 := HS.out.below hbu
            have hRu : ReadS w1 w1.heap.size Au (piecesB ss[j]).length (piecesB ss[j]) := by have := Reads.of_own hu; exact this
            have hes : ents (groupsB (ss.take (j + 1))) = ents (groupsB (ss.take j)) ++ (piecesB ss[j]).map (·, j) := by
              have hg : groupsB (ss.take (j + 1)) = (groupsB ss).take (j + 1) := by unfold groupsB; rw [List.map_take]
              have hg' : groupsB (ss.take j) = (groupsB ss).take j := by unfold groupsB; rw [List.map_take]
              rw [hg, hg', ents_take_succ (by simp [groupsB, HL.out]; omega)]; congr 2; simp [groupsB]
            have hGs : groupsB (ss.take (j + 1)) = groupsB (ss.take j) ++ [piecesB ss[j]] := by
              unfold groupsB; rw [List.take_succ_eq_append_getElem hks, List.map_append]; rfl
            have hpm : ∀ x ∈ piecesB ss[j], x ∈ (groupsB ss).flatten := fun x hx => List.mem_flatten.2 ⟨_, List.mem_map.2 ⟨ss[j], List.getElem_mem _, rfl⟩, hx⟩
            have hps : ∀ x ∈ piecesB ss[j], x.size ≤ 3000 := fun x hx => Nat.le_trans (piecesB_size hx) hsz
            have hpl := piecesB_le ss[j]
            have htotal : (ents (groupsB (ss.take (j + 1)))).length ≤ 256 := by
              have e1 : (ents (groupsB (ss.take (j + 1)))).length = totalP (ss.take (j + 1)) := by
                rw [totalP, ← ents_fst, List.length_map]
              have e2 := spaces_le ss (j + 1)
              rw [e1, totalP_eq, ← spaces, List.length_take, HL.out]; omega
            rw [hes, List.length_append, List.length_map] at htotal
            generalize hP : piecesB ss[j] = P at *
            generalize groupsB (ss.take j) = gs0 at *
            generalize ents gs0 = es0 at *
            generalize ss[j] = sj at *
            have HES := Lib.hid hes; have HGS := Lib.hid hGs; have HPM := Lib.hid hpm; have HPS := Lib.hid hps; have HRU := Lib.hid hRu; have HS1 := Lib.hid hS1; have HU := Lib.hid hu'
            clear hes hGs hpm hps hRu hS1 hu' hu HS hsc hbu hcr hP
            go_wp2_with fail
            go_loopw [8, 45] (fun t i wr => ∃ (q : Nat) (tw : Bool), q ≤ P.length ∧ i = .int .i64 q ∧ t = .bool tw ∧ NewSt wr w.heap.size (w.heap.size + 1) (w.heap.size + 2) v gs0 (es0 ++ (P.take q).map (·, j)) tw ∧ (∀ b, w.heap.size + 2 ≤ b → b < w1.heap.size → wr.heap[b]? = w1.heap[b]?) ∧ w1.heap.size ≤ wr.heap.size ∧ Below w.heap.size w wr) (fun _ i _ => P.length - (RowKit.intOf i).toNat)
            case atStart => exact ⟨0, tw, by omega, rfl, rfl, by simpa using HS1.out, fun _ _ _ => rfl, Nat.le_refl _, hb1⟩
            case round =>
              obtain ⟨q, tw1, hq, rfl, rfl, hS, hbl, hsz1, hb⟩ := hrel
              have HS := Lib.hid hS; have HBL := Lib.hid hbl; clear hS hbl HS1
              by_cases hql : q < P.length
              · have hRw : ReadS wr wr.heap.size Au P.length P := Reads.of_own (own_blocks HU.out HBL.out)
                obtain ⟨ad1, hA1, _, hcq⟩ := hRw.at_ (k := q) hql
                subst hA1
                have hxs := HPS.out P[q] (List.getElem_mem _)
                have hxm := HPM.out P[q] (List.getElem_mem _)
                have htk : es0 ++ (P.take (q + 1)).map (·, j) = (es0 ++ (P.take q).map (·, j)) ++ [(P[q], j)] := by
                  rw [List.take_succ_eq_append_getElem hql, List.map_append, List.append_assoc]; rfl
                have hel : (es0 ++ (P.take q).map (·, j)).length < 256 := by rw [List.length_append, List.length_map, List.length_take]; omega
                have hca := contains_any P[q] wr
                generalize hX : P[q] = x at hcq hxs hxm htk hca
                generalize es0 ++ (P.take q).map (·, j) = es at *
                have HXM := Lib.hid hxm; have HTK := Lib.hid htk; clear hRw hxm htk hX
                by_cases hgood : letterB (bl x) = true
                · have hg2 := hgood
                  unfold letterB at hg2
                  simp only [Bool.and_eq_true, decide_eq_true_eq, bl_len] at hg2
                  obtain ⟨⟨hx1, hx8⟩, hall⟩ := hg2
                  rw [hall] at hca
                  have HG := Lib.hid hgood; clear hgood hall
                  obtain ⟨⟨cs, hblk, hcs⟩, hM, hmap, hlets, htw⟩ := HS.out
                  have hxl : x.size ≤ maxLen := by unfold maxLen; omega
                  have hnb : w.heap.size ≠ w.heap.size + 1 := by omega
                  have hc1 := hcs.2.2.1
                  have hx0 : firstB x = x[0] := by
                    unfold firstB; cases hb0 : bl x with
                    | nil => have := bl_len x; rw [hb0] at this; simp at this; omega
                    | cons c t => have h0 : (bl x)[0]'(by rw [bl_len]; omega) = x[0] := rfl
                                  rw [← h0]; simp [hb0]
                  have hcb := hcs.2.2.2 x[0]
                  have hmb := mostF_nonneg es x[0]
                  have hm8 := mostF_le es x[0] (fun e he => by have := hlets e he; unfold letterB at this; simp only [Bool.and_eq_true, decide_eq_true_eq, bl_len] at this; exact this.1.2)
                  generalize hmv : mostF es x[0] = mv at hcb hmb hm8
                  have HMV := Lib.hid hmv; have HX0 := Lib.hid hx0; clear hmv hx0
                  have HCS := Lib.hid hcs; have HLETS := Lib.hid hlets; have HTW := Lib.hid htw; clear hcs hlets htw
                  have hstep := fun (w2 w3 : World) h1 h2 h3 => HS.out.step (w2 := w2) (w3 := w3) (x := x) (j := j) (b := x[0]) (mv := mv) (by omega) (by omega) hnb h1 h2 h3 HX0.out HMV.out HG.out
                  have HSTEP := Lib.hid hstep; clear hstep
                  cases hsome : (placeF es x).isSome
                  all_goals
                    go_wp2_with (first
                      | (go_at_call 38; refine hca.mono ?_; rintro e w2 ⟨rfl, hb2⟩; have hmap2 := hmap.below hb2; have hblk2 := hblk.below hb2 hblk.lt; have hlook := hmap2.look x hxl; rw [hsome] at hlook; have hcm := (hblk2.cell 1).trans hc1)
                      | (at_mapUpdate; refine wpList_putSI rfl (.tmp 74) (.tmp 75) (.tmp 76) rfl w.heap.size es.length (placeF es) rfl hmap2 (by unfold maxLen; omega) x hxl j (WalkArith.wf_i64 (by omega)) rfl rfl ?_; intro w3 hmap3 hg3; have hblk3 := hblk2.grown hg3 (by simp); have hcb3 := (hblk3.cell (2 + x[0].toNat)).trans hcb; have hfz3 := hblk3.frozen (2 + x[0].toNat)))
                    have HST := Lib.hid (HSTEP.out w2 w3 hb2 hmap3 hg3)
                    have HB2 := Lib.hid hb2; have HG3 := Lib.hid hg3
                    clear hca hmap2 hblk2 hlook hcm hmap hblk hM hmap3 hblk3 hr hm hst hc1 hcb HSTEP hb2 hg3
                    have hxp : 0 < x.size := by omega
                    have hx256 : (x[0].toNat : Int) < 256 := by have := x[0].toNat_lt; omega
                    go_still_tail 16, (by kernel_rfl)
                    go_wp2
                    go_roundw
                    case rel =>
                      have hlt3 : w2.heap.size ≤ w3.heap.size := HG3.out.size
                      have hlt2 : wr.heap.size ≤ w2.heap.size := HB2.out.size
                      have hbsz := hb.size
                      refine ⟨q + 1, _, by omega, by go_num, rfl, ?_, fun b hb1 hb2 => ?_, ?_, ?_⟩
                      · rw [HTK.out]
                        have h := HST.out
                        rw [hsome] at h
                        first
                          | (rw [Bool.or_false] at h; exact h)
                          | (rw [Bool.or_true] at h; exact h)
                      · refine Eq.trans (Below.heap_setCell _ _ _ _ (by simp; omega)) ?_
                        exact ((HG3.out.block b (by omega) (fun e => by injection e with e; omega)).trans (HB2.out.block b (by omega))).trans (HBL.out b hb1 hb2)
                      · simp [World.setCell]; omega
                      · exact ((hb.trans (HB2.out.mono hb.size)).grown HG3.out (by omega) (fun r e => by injection e with e; omega)).trans (((Below.refl _ w3).setCell (p := ⟨w.heap.size + 1, 2 + x[0].toNat, none⟩) (by simp) _).drew)
                    case measure => simp [RowKit.intOf]; omega
                · have hbad : newErr ss = 15 := by
                    rw [HE.out, if_pos]
                    rw [List.all_eq_false]; exact ⟨x, HXM.out, hgood⟩
                  have HB := Lib.hid hbad; clear hbad
                  have fin : ∀ w' : World, Below w.heap.size w w' → NewPost w ss (.returned (.tuple #[.pointer none, .int .i64 15])) w' := fun w' hb' =>
                    ⟨fun _ => by rw [HB.out], fun h => by rw [HB.out] at h; omega, hb'⟩
                  have FIN := Lib.hid fin; clear fin
                  by_cases h1 : x.size < 1
                  · clear hca
                    go_wp2
                    go_ret2
                    exact FIN.out _ hb
                  · by_cases h8 : 8 < x.size
                    · clear hca
                      go_wp2
                      go_ret2
                      exact FIN.out _ hb
                    · have hall : ((bl x).all fun c => decide (32 < c.toNat)) = false := by
                        rw [Bool.eq_false_iff]; intro h; apply hgood
                        unfold letterB; rw [h, bl_len, decide_eq_true (by omega), decide_eq_true (by omega)]; rfl
                      rw [hall] at hca
                      clear hgood hall
                      go_wp2_with (go_at_call 38; refine hca.mono ?_; rintro e w2 ⟨rfl, hb2⟩)
                      go_ret2
                      exact FIN.out _ (hb.trans (hb2.mono hb.size))
              · obtain rfl : q = P.length := by omega
                rw [List.take_length] at HS
                obtain ⟨⟨cs, hblk, hcs⟩, hM, hmap, hlets, htw⟩ := HS.out
                have hbsz := hb.size
                have hblt := hblk.lt
                have hu1 : wr.ownsRow (w.heap.size + 2) 9 1 (.slice Au P.length cu) P.length (strs P) := own_blocks HU.out HBL.out
                obtain ⟨vs, hvs, hvl, hvk⟩ := id hM
                obtain ⟨Av, cv, rfl, hcv1, hcv2⟩ := ownsRow_form hvs
                have hgl : (strM gs0).length = j := by
                  have := congrArg List.length HGS.out
                  simp [groupsB, HL.out] at this
                  simp; omega
                rw [hgl] at hvs hcv1
                have hc0 := (hblk.cell 0).trans hcs.2.1
                rw [hgl] at hc0
                rw [hgl] at hM
                have HCS := Lib.hid hcs; have HM := Lib.hid hM; have HMAP := Lib.hid hmap; have HLT := Lib.hid hlets; have HTW := Lib.hid htw; have HU1 := Lib.hid hu1; have HGL := Lib.hid hgl
                clear hcs hM hmap hlets htw hu1 hgl hvk hvl
                go_wp2_with (at_builtin; refine wpList_append_own _ rfl _ _ 28 rfl (w.heap.size + 2) 22 i0 (.slice none 0 0) 1 24 Tryd.underlying28 hi hz0 hz1 hz2 rfl (by decide) _ _ _ rfl (hvs.alloc _) ⟨wr.heap.size, 0, none⟩ 1 1 [.slice Au P.length cu] rfl rfl (cell_one_new _ _ _) (by simp [Value.oneCell']) (by unfold maxLen; omega) (by omega) (by simp; omega) ?_; intro v' w2 hown' hgrow _; obtain ⟨A2, c2, rfl, _, _⟩ := ownsRow_form hown'; have hblk2 := (hblk.alloc _).grown hgrow (fun e => own_blk_ne hvs hblk (by decide) e.symm); have hst2 := (hblk2.cell 0).trans HCS.out.2.1; have hfz2 := hblk2.frozen 0)
                have hb2 : Below w.heap.size w w2 := (hb.alloc hb.size _).grown hgrow (by simp; omega) (fun g hg => by have := (hvs.lt g hg).1; omega)
                have hM2 := (HM.out.alloc (.cells #[.slice Au P.length cu] 22)).push (u := .slice Au P.length cu) (xs := strs P) (by decide) (by rw [List.length_map]; exact HU1.out.alloc _) (v := .slice Av j cv) (hvs.alloc _) hgrow hown'
                have hmap2 := (HMAP.out.below ((Below.refl _ _).alloc (Nat.le_refl _) (.cells #[.slice Au P.length cu] 22))).kept hgrow (fun e => by have := (hvs.lt _ e.symm).1; omega)
                have HM2 := Lib.hid hM2; have HMAP2 := Lib.hid hmap2; have HB2 := Lib.hid hb2
                clear hgrow hvs hown' hM2 hmap2 hb2
                go_roundw
                case rel =>
                  have hbk := hblk2
                  refine ⟨j + 1, tw1, .slice A2 (j + 1) c2, by omega, by go_num, rfl, ?_, HB2.out.setCell (p := ⟨w.heap.size + 1, 0, none⟩) (by simp) _⟩
                  refine ⟨⟨_, hbk.set_ 0 _, ?_⟩, ?_, ?_, ?_, ?_⟩
                  · obtain ⟨a1, a2, a3, a4⟩ := HCS.out
                    rw [HES.out]
                    exact ⟨by simpa using a1, by rw [Array.getElem?_setIfInBounds_self_of_lt (by omega)], by rw [Array.getElem?_setIfInBounds_ne (by omega)]; exact a3, fun b => by rw [Array.getElem?_setIfInBounds_ne (by omega)]; exact a4 b⟩
                  · rw [HGS.out, strM, List.map_append]
                    exact HM2.out.low (grown_setCell _ _ _) (fun r e => by cases e; simp)
                  · rw [HES.out]
                    exact HMAP2.out.kept (grown_setCell _ _ _) (fun e => by injection e with e; simp at e)
                  · rw [HES.out]; exact HLT.out
                  · rw [HES.out]; exact HTW.out
                case measure => simp [RowKit.intOf]; omega
          · obtain rfl : j = k := by omega
            rw [show ss.take j = ss from List.take_of_length_le (by rw [HL.out]; exact Nat.le_refl _)] at HS
            obtain ⟨hC, hM, hmap, hlets, htw⟩ := HS.out
            rw [show List.map Prod.fst (ents (groupsB ss)) = (groupsB ss).flatten from ents_fst _] at htw
            have hall : ∀ x ∈ (groupsB ss).flatten, letterB (bl x) = true := fun x hx => by
              rw [← ents_fst] at hx
              obtain ⟨e, he, rfl⟩ := List.mem_map.1 hx
              exact hlets e he
            have hE1 : newErr ss = if dupB (groupsB ss).flatten then 6 else 0 := by
              rw [HE.out, if_neg]
              rw [List.all_eq_true.2 hall]; decide
            have HALL := Lib.hid hall; have HTW := Lib.hid htw; have HMAP := Lib.hid hmap; have HM := Lib.hid hM; have HC := Lib.hid hC
            clear hall htw hmap hM hC hlets HE
            cases htwc : tw
            · have hE2 : newErr ss = 0 := by rw [hE1, ← HTW.out, htwc]; rfl
              have HE2 := Lib.hid hE2
              have hgood : GoodG (groupsB ss) := ⟨by
                have := HTW.out; rw [htwc] at this
                unfold dupB at this
                simpa using this.symm, HALL.out⟩
              have HGD := Lib.hid hgood
              clear hE1 hE2 htwc hgood
              go_wp2
              go_ret2
              obtain ⟨cs, hb1, hb2⟩ := HC.out
              exact ⟨fun h => absurd HE2.out h, fun _ => ⟨_, rfl, ⟨_, _, _, _, cs, hb1, hb2, HM.out, HMAP.out⟩, HGD.out⟩, hb⟩
            · have hE2 : newErr ss = 6 := by rw [hE1, ← HTW.out, htwc]; rfl
              have HE2 := Lib.hid hE2
              clear hE1 hE2 htwc
              go_wp2
              go_ret2
              exact ⟨fun _ => by rw [HE2.out]; rfl, fun h => by rw [HE2.out] at h; omega, hb⟩
end Go.Proofs.YtgkpoopiamicnaaDoor
namespace Go.Proofs.YtgkpoopiamicnaaDoor

def strmN (gs : List (List ByteArray)) : Nat → ByteArray → List (ByteArray × Int)
  | 0, _ => []
  | n + 1, s => if s.size = 0 then [] else if (longest gs s).2 < 0 then [(ByteArray.empty, -1)] else longest gs s :: strmN gs n (dropB s (longest gs s).1.size)
/-- The letters, each with its place, that the iterator yields; an empty one with the place -1 where there is none. -/
def strm (gs : List (List ByteArray)) (s : ByteArray) : List (ByteArray × Int) := strmN gs s.size s
theorem strmN_eq (gs : List (List ByteArray)) : ∀ (n m : Nat) (s : ByteArray), s.size ≤ n → s.size ≤ m → strmN gs n s = strmN gs m s := by
  intro n
  induction n with
  | zero =>
    intro m s h _
    cases m with
    | zero => rfl
    | succ m => simp only [strmN]; rw [if_pos (by omega)]
  | succ n ih =>
    intro m s h h'
    cases m with
    | zero => simp only [strmN]; rw [if_pos (by omega)]
    | succ m =>
      simp only [strmN]
      split
      · rfl
      · split
        · rfl
        · rename_i h1
          have := longest_pos h1
          rw [ih m _ (by rw [dropB_size]; omega) (by rw [dropB_size]; omega)]
theorem strm_nil (gs : List (List ByteArray)) {s : ByteArray} (h : s.size = 0) : strm gs s = [] := by
  unfold strm; rw [h]; rfl
theorem strm_cons (gs : List (List ByteArray)) {s : ByteArray} (h : 0 < s.size) (h1 : ¬ (longest gs s).2 < 0) : strm gs s = longest gs s :: strm gs (dropB s (longest gs s).1.size) := by
  unfold strm
  obtain ⟨n, hn⟩ : ∃ n, s.size = n + 1 := ⟨s.size - 1, by omega⟩
  have h2 := longest_pos h1
  rw [hn]; simp only [strmN]
  rw [if_neg (by omega), if_neg h1, strmN_eq gs n (dropB s (longest gs s).1.size).size _ (by rw [dropB_size]; omega) (Nat.le_refl _)]
theorem strm_none (gs : List (List ByteArray)) {s : ByteArray} (h : 0 < s.size) (h1 : (longest gs s).2 < 0) : strm gs s = [(ByteArray.empty, -1)] := by
  unfold strm
  obtain ⟨n, hn⟩ : ∃ n, s.size = n + 1 := ⟨s.size - 1, by omega⟩
  rw [hn]; simp only [strmN]
  rw [if_neg (by omega), if_pos h1]
theorem parse_strm (gs : List (List ByteArray)) : ∀ (n : Nat) (s : ByteArray), s.size ≤ n →
    ((∀ e ∈ strm gs s, ¬ e.2 < 0) → parse gs s = some (strm gs s)) ∧ ((∃ e ∈ strm gs s, e.2 < 0) → parse gs s = none) := by
  intro n
  induction n with
  | zero =>
    intro s h
    rw [strm_nil gs (by omega), parse_nil gs (by omega)]
    exact ⟨fun _ => rfl, fun ⟨e, he, _⟩ => by cases he⟩
  | succ n ih =>
    intro s h
    by_cases h0 : s.size = 0
    · rw [strm_nil gs h0, parse_nil gs h0]
      exact ⟨fun _ => rfl, fun ⟨e, he, _⟩ => by cases he⟩
    · by_cases h1 : (longest gs s).2 < 0
      · rw [strm_none gs (by omega) h1, parse_none gs (by omega) h1]
        exact ⟨fun h => absurd (by decide) (h _ (List.mem_singleton.2 rfl)), fun _ => rfl⟩
      · have h2 := longest_pos h1
        obtain ⟨i1, i2⟩ := ih (dropB s (longest gs s).1.size) (by rw [dropB_size]; omega)
        rw [strm_cons gs (by omega) h1, parse_cons gs (by omega) h1]
        refine ⟨fun h => ?_, fun ⟨e, he, hn⟩ => ?_⟩
        · rw [i1 (fun e he => h e (by simp [he]))]; rfl
        · rcases List.mem_cons.1 he with rfl | he
          · exact absurd hn h1
          · rw [i2 ⟨e, he, hn⟩]; rfl
theorem parse_some_of {gs : List (List ByteArray)} {s : ByteArray} (h : ∀ e ∈ strm gs s, ¬ e.2 < 0) : parse gs s = some (strm gs s) := (parse_strm gs s.size s (Nat.le_refl _)).1 h
theorem parse_none_of {gs : List (List ByteArray)} {s : ByteArray} (h : ∃ e ∈ strm gs s, e.2 < 0) : parse gs s = none := (parse_strm gs s.size s (Nat.le_refl _)).2 h
theorem strm_length (gs : List (List ByteArray)) : ∀ (n : Nat) (s : ByteArray), s.size ≤ n → (strm gs s).length ≤ s.size := by
  intro n
  induction n with
  | zero => intro s h; rw [strm_nil gs (by omega)]; simp
  | succ n ih =>
    intro s h
    by_cases h0 : s.size = 0
    · rw [strm_nil gs h0]; simp
    · by_cases h1 : (longest gs s).2 < 0
      · rw [strm_none gs (by omega) h1]; simp; omega
      · have h2 := longest_pos h1
        have := ih (dropB s (longest gs s).1.size) (by rw [dropB_size]; omega)
        rw [dropB_size] at this
        rw [strm_cons gs (by omega) h1, List.length_cons]; omega
theorem strm_pos (gs : List (List ByteArray)) {s : ByteArray} (h : 0 < s.size) : 0 < (strm gs s).length := by
  by_cases h1 : (longest gs s).2 < 0
  · rw [strm_none gs h h1]; simp
  · rw [strm_cons gs h h1]; simp
end Go.Proofs.YtgkpoopiamicnaaDoor
