/-
  Layer 40: the example of the statements' works, plainly. Conditions: none.
-/
import Derived.Test.YtgkpoopiamicnaaDoorZaan
import Derived.Test.YtgkpoopiamicnaaDoorZaab
import Derived.Shelf.Strings.SplitCore
import Derived.Lib.SplitLaws
import Derived.Test.YtgkpoopiamicnaaDoorZaae
namespace Go.Proofs.YtgkpoopiamicnaaDoor
open Go.RowKit Go.Lib

def sA : ByteArray := ⟨#[97]⟩
def sB : ByteArray := ⟨#[98]⟩
def sC : ByteArray := ⟨#[99]⟩
def sAB : ByteArray := ⟨#[97, 98]⟩
def wkL : List ByteArray := [sA, sB, sC]
def wkG : Grps := [[sA], [sB], [sC]]
def wkB : Art := ⟨sB, [], [], [sA, sC]⟩
def wkA : Art := ⟨sA, [], [], [sB]⟩
def wkAB : Art := ⟨sAB, [], [], [sAB]⟩
def wkX : Art := ⟨sA, [], [], []⟩
def wk3 : List Art := [wkA, wkAB, wkB]
theorem wkG_eq : groupsB wkL = wkG := by decide +kernel
theorem wkErr : newErr wkL = 0 := by decide +kernel
theorem wkE1 : artE wkG [] wkB = 0 := by decide +kernel
theorem wkE2 : artE wkG [wkB] wkA = 0 := by decide +kernel
theorem wkE3 : artE wkG [wkA, wkB] wkAB = 0 := by decide +kernel
theorem wkE4 : artE wkG wk3 wkX = 6 := by decide +kernel
theorem wkP1 : putL wkG [] wkB = [wkB] := by unfold putL; rw [if_pos wkE1]; kernel_rfl
theorem wkP2 : putL wkG [wkB] wkA = [wkA, wkB] := by unfold putL; rw [if_pos wkE2]; kernel_rfl
theorem wkP3 : putL wkG [wkA, wkB] wkAB = wk3 := by unfold putL; rw [if_pos wkE3]; kernel_rfl
theorem wkH : headsL wk3 = [sA, sAB, sB] := rfl
theorem wkSA : seeOf wk3 sA = [sB] := by kernel_rfl
theorem wkSB : seeOf wk3 sB = [sA, sC] := by kernel_rfl
theorem wkSAB : seeOf wk3 sAB = [sAB] := by kernel_rfl
theorem wkTC : thereB wk3 sC = false := by kernel_rfl
theorem wkTA : thereB wk3 sA = true := by kernel_rfl
theorem wkTB : thereB wk3 sB = true := by kernel_rfl
theorem wkTAB : thereB wk3 sAB = true := by kernel_rfl
theorem reach_in {L : List Art} {s t : ByteArray} (C : ByteArray → Prop) (h1 : ∀ t, RefD L s t → C t) (h2 : ∀ u t, C u → RefD L u t → C t) (h : Reach L s t) : C t := by
  induction h with
  | one h => exact h1 _ h
  | more _ h ih => exact h2 _ _ ih h
theorem refA {t : ByteArray} (h : RefD wk3 sA t) : t = sB := by
  have h1 := h.1
  rw [wkSA, List.mem_singleton] at h1
  exact h1
theorem refB {t : ByteArray} (h : RefD wk3 sB t) : t = sA := by
  have h1 := h.1
  rw [wkSB, List.mem_cons, List.mem_singleton] at h1
  rcases h1 with h1 | rfl
  · exact h1
  · have h2 := h.2
    rw [wkTC] at h2
    cases h2
theorem refAB {t : ByteArray} (h : RefD wk3 sAB t) : t = sAB := by
  have h1 := h.1
  rw [wkSAB, List.mem_singleton] at h1
  exact h1
theorem oneA : Reach wk3 sA sB := .one ⟨by rw [wkSA]; simp, wkTB⟩
theorem oneB : Reach wk3 sB sA := .one ⟨by rw [wkSB]; simp, wkTA⟩
theorem oneAB : Reach wk3 sAB sAB := .one ⟨by rw [wkSAB]; simp, wkTAB⟩
theorem outA {t : ByteArray} (h : Reach wk3 sA t) : t = sA ∨ t = sB := reach_in (fun t => t = sA ∨ t = sB) (fun t h => .inr (refA h)) (fun u t hu h => by
  rcases hu with rfl | rfl
  · exact .inr (refA h)
  · exact .inl (refB h)) h
theorem outB {t : ByteArray} (h : Reach wk3 sB t) : t = sA ∨ t = sB := reach_in (fun t => t = sA ∨ t = sB) (fun t h => .inl (refB h)) (fun u t hu h => by
  rcases hu with rfl | rfl
  · exact .inr (refA h)
  · exact .inl (refB h)) h
theorem outAB {t : ByteArray} (h : Reach wk3 sAB t) : t = sAB := reach_in (fun t => t = sAB) (fun t h => refAB h) (fun u t hu h => by subst hu; exact refAB h) h
theorem reachF {L : List Art} {s t : ByteArray} (h : ¬ Reach L s t) : reachB L s t = false := by
  cases e : reachB L s t with
  | false => rfl
  | true => exact absurd (reachB_iff.1 e) h
theorem rAA : reachB wk3 sA sA = true := reachB_iff.2 (oneA.trans oneB)
theorem rAB : reachB wk3 sA sB = true := reachB_iff.2 oneA
theorem rBA : reachB wk3 sB sA = true := reachB_iff.2 oneB
theorem rBB : reachB wk3 sB sB = true := reachB_iff.2 (oneB.trans oneA)
theorem rCC : reachB wk3 sAB sAB = true := reachB_iff.2 oneAB
theorem rAC : reachB wk3 sA sAB = false := reachF fun h => by rcases outA h with h | h <;> exact absurd h (by decide)
theorem rBC : reachB wk3 sB sAB = false := reachF fun h => by rcases outB h with h | h <;> exact absurd h (by decide)
theorem rCA : reachB wk3 sAB sA = false := reachF fun h => absurd (outAB h) (by decide)
theorem rCB : reachB wk3 sAB sB = false := reachF fun h => absurd (outAB h) (by decide)
theorem wkFrom : fromL wk3 sA = [sA, sB] := by
  unfold fromL
  rw [if_pos wkTA, wkH]
  simp [rAA, rAB, rAC]
theorem wkFromE : fromE wk3 sA = 0 := by unfold fromE; rw [if_pos wkTA]
theorem wkCA : compOf wk3 sA = [sA, sB] := by unfold compOf both; rw [wkH]; simp [rAA, rAB, rAC, rBA]
theorem wkCB : compOf wk3 sB = [sA, sB] := by unfold compOf both; rw [wkH]; simp [rBA, rAB, rBC, rBB]
theorem wkCC : compOf wk3 sAB = [sAB] := by unfold compOf both; rw [wkH]; simp [rCA, rCB, rCC]
theorem wkCyc : cyclesL wk3 (headsL wk3) = [[sA, sB], [sAB]] := by
  unfold cyclesL leadB
  rw [wkH]
  simp [wkCA, wkCB, wkCC, show ¬ sA = sB from by decide]
theorem wkMiss : missAll wk3 (headsL wk3) = [sC] := by kernel_rfl
theorem wkOk {x : Art} (h : x = wkB ∨ x = wkA ∨ x = wkAB ∨ x = wkX) : ArtOk x := by
  rcases h with rfl | rfl | rfl | rfl <;> exact ⟨by decide, by simp [wkB, wkA, wkAB, wkX], by simp [wkB, wkA, wkAB, wkX], by simp [wkB, wkA, wkAB, wkX] <;> decide⟩
end Go.Proofs.YtgkpoopiamicnaaDoor
namespace Go.Proofs.YtgkpoopiamicnaaDoor
open Go.RowKit Go.Lib Go.Shelf

theorem index_one (x : ByteArray) (w : World) : Calls Tryd.prog 60 #[.string x, .string ⟨#[32]⟩] w fun e w' => e = .returned (.int .i64 (Lib.indexB x spaceB)) ∧ w' = w :=
  (Tryd.strings_Index_one x 32 w).mono fun _ _ ⟨h1, h2⟩ => ⟨by rw [h1, ← Lib.index_one]; rfl, h2⟩
theorem count_one (x : ByteArray) (w : World) : Calls Tryd.prog 36 #[.string x, .string ⟨#[32]⟩] w fun e w' => e = .returned (.int .i64 (Lib.countB x spaceB)) ∧ w' = w :=
  (Tryd.strings_Count_one x 32 w).mono fun _ _ ⟨h1, h2⟩ => ⟨by
    rw [h1]
    show _ = Ending.returned (Value.int .i64 ((Lib.count x.data.toList [32] : Nat) : Int))
    rw [Lib.count_one]
    rfl, h2⟩
set_option maxRecDepth 20000 in
set_option maxHeartbeats 4000000 in
theorem genSplit_space (s : ByteArray) (N : Nat) (w : World) (hs : s.size ≤ 140737488351232) (hN : N = Lib.countB s spaceB + 1) (h1000 : N ≤ 1001) :
    Calls Tryd.prog 61 #[.string s, .string ⟨#[32]⟩, .int .i64 0, .int .i64 (-1)] w fun e w' =>
      e = .returned (.slice (some ⟨w.heap.size, 0, none⟩) (Lib.splitB spaceB 0 (N - 1) s).length N) ∧ w' = w.alloc (.cells (Lib.cellsOf (Lib.splitB spaceB 0 (N - 1) s) N) 9) := by
  have hC := count_one s w
  have hI := fun (x : ByteArray) (c : Array Value) => index_one x (w.alloc (.cells c 9))
  obtain ⟨cn, hcn⟩ : ∃ cn : Nat, Lib.countB s spaceB = cn := ⟨_, rfl⟩
  rw [hcn] at hC hN
  have hcl : cn ≤ s.size := by rw [← hcn]; exact Lib.countB_le spaceB (by decide) s.size s (Nat.le_refl _)
  clear hcn
  have eN' : min ((cn : Int) + 1) ((s.size : Int) + 1) = (N : Int) := by omega
  have hmk := run_make_row' (P := Tryd.prog) 22 9 (.string ByteArray.empty) 16 Tryd.underlying22 (by kernel_rfl) rfl .i64 .i64 N (by omega) (by omega)
  have HI := Lib.hid hI; have HN := Lib.hid hN
  clear hI hN
  go_enter Tryd.func61, Tryd.ntmps61
  go_wp2_with (first | (go_at_call 36; refine hC.mono ?_; rintro e w' ⟨rfl, hw⟩; rw [hw]))
  clear hmk hC
  go_loopg [0, 10] (N - 1) (fun g s0 s10 wr => ∃ (done : List ByteArray) (rest : ByteArray), s0 = .string rest ∧ s10 = .int .i64 done.length ∧ done.length ≤ N - 1 ∧ g = N - 1 - done.length ∧ rest.size ≤ s.size ∧
    wr = w.alloc (.cells (Lib.cellsOf done N) 9) ∧ done ++ Lib.splitB spaceB 0 (N - 1 - done.length) rest = Lib.splitB spaceB 0 (N - 1) s)
  case atStart => exact ⟨[], s, rfl, rfl, Nat.zero_le _, rfl, Nat.le_refl _, by rw [Lib.cellsOf_nil], rfl⟩
  case round =>
    obtain ⟨done, rest, rfl, rfl, hd, rfl, hrs, rfl, hsp⟩ := hrel
    have hnext : (Lib.cellsOf done N)[done.length]? = some (.string ByteArray.empty) := Lib.cellsOf_next (by omega)
    have HS := Lib.hid hsp
    clear hsp
    have fin : Lib.splitB spaceB 0 (N - 1 - done.length) rest = [rest] → (Lib.splitB spaceB 0 (N - 1) s).length = done.length + 1 ∧ (Lib.cellsOf done N).setIfInBounds done.length (.string rest) = Lib.cellsOf (Lib.splitB spaceB 0 (N - 1) s) N := fun h => by
      have e := HS.out
      rw [h] at e
      rw [← e]
      exact ⟨by simp, Lib.cellsOf_set (by omega) rest⟩
    have FIN := Lib.hid fin
    clear fin
    by_cases hlt : done.length < N - 1
    · have hltz : ((done.length : Nat) : Int) < (N : Int) - 1 := by omega
      rcases Lib.indexB_cases rest spaceB with hix | ⟨i, hix, hroom⟩
      · go_wp2_with (first | (go_at_call 60; refine (HI.out rest _).mono ?_; rintro e w' ⟨rfl, hw⟩; rw [hw, hix]))
        go_ret
        obtain ⟨f1, f2⟩ := FIN.out (Lib.splitB_miss spaceB 0 _ rest hix)
        rw [f1, ← f2]
        exact ⟨by first | rfl | (congr 2 <;> omega), rfl⟩
      · have hsz1 : spaceB.size = 1 := rfl
        rw [hsz1] at hroom
        have c0 : ¬ ((i : Int) < 0) := by omega
        have c1 : (0 : Int) ≤ ↑i + 0 := by omega
        have c2 : (↑i + 0 : Int) ≤ ↑rest.size := by omega
        have c3 : (0 : Int) ≤ ↑i + 1 := by omega
        have c4 : (↑i + 1 : Int) ≤ ↑rest.size := by omega
        go_wp2_with (first | (go_at_call 60; refine (HI.out rest _).mono ?_; rintro e w' ⟨rfl, hw⟩; rw [hw, hix]))
        go_roundg (N - 1 - (done.length + 1))
        case measure => omega
        case rel =>
          refine ⟨done ++ [rest.extract 0 (i + 0)], rest.extract (i + 1) rest.size, rfl, by simp, by simp; omega, by simp, by rw [ByteArray.size_extract]; omega, by rw [← Lib.cellsOf_set (by omega)]; rfl, ?_⟩
          rw [← HS.out, show N - 1 - done.length = (N - 1 - (done.length + 1)) + 1 by omega, Lib.splitB_hit spaceB 0 _ rest i hix]
          simp [hsz1]
    · have hltz : ¬ (((done.length : Nat) : Int) < (N : Int) - 1) := by omega
      go_wp2
      go_ret
      obtain ⟨f1, f2⟩ := FIN.out (by rw [show N - 1 - done.length = 0 by omega]; rfl)
      rw [f1, ← f2]
      exact ⟨by first | rfl | (congr 2 <;> omega), rfl⟩
set_option maxHeartbeats 1000000 in
theorem split_few (s : ByteArray) (w : World) (hs : s.size ≤ 140737488351232) (hc : (bl s).count 32 ≤ 1000) :
    Calls Tryd.prog 37 #[.string s, .string ⟨#[32]⟩] w (GivesS w (piecesB s)) := by
  have h1 : Lib.splitB spaceB 0 (Lib.countB s spaceB) s = piecesB s := splitB_space s
  have h2 : Lib.countB s spaceB + 1 = (piecesB s).length := countB_space s
  have h4 := piecesB_length s
  have h3 := genSplit_space s (Lib.countB s spaceB + 1) w hs rfl (by omega)
  rw [Nat.add_sub_cancel, h1, h2, Lib.cellsOf_full] at h3
  have H4 := Lib.hid h4; have HC := Lib.hid hc
  clear h1 h2 h4 hc
  go_enter Tryd.func37, Tryd.ntmps37
  go_wp2_with (go_at_call 61; refine h3.mono ?_; rintro e w' ⟨rfl, hw⟩; rw [hw])
  go_ret
  refine ⟨_, rfl, ?_, (Below.refl _ _).alloc (Nat.le_refl _) _⟩
  exact ⟨by simp, .inr ⟨w.heap.size, (piecesB s).length, ((piecesB s).map Value.string).toArray, rfl, Nat.le_refl _, heap_alloc_new w _, Nat.le_refl _, by have := H4.out; have := HC.out; unfold maxLen; omega, by simp, by rw [Nat.mul_one, List.toList_toArray]; exact List.take_of_length_le (by simp)⟩⟩
end Go.Proofs.YtgkpoopiamicnaaDoor
namespace Go.Proofs.YtgkpoopiamicnaaDoor
open Go.RowKit Go.Lib
theorem totalM_le : ∀ (ss : List ByteArray) (m : Nat), (∀ s ∈ ss, s.size ≤ m) → totalS ss ≤ ss.length * m
  | [], _, _ => by simp [totalS]
  | s :: ss, m, h => by
    have h1 := totalM_le ss m fun t ht => h t (List.mem_cons_of_mem _ ht)
    have h2 := h s List.mem_cons_self
    unfold totalS at *
    rw [List.map_cons, List.sum_cons, List.length_cons, Nat.succ_mul]
    omega
set_option maxRecDepth 20000 in
set_option maxHeartbeats 4000000 in
theorem newM_any (A : Option Addr) (n c m : Nat) (ss : List ByteArray) (w : World) (hr : ReadS w w.heap.size A n ss) (hn : n ≤ 4294967296) (hm : n * m ≤ 1152921504606846976) (hm2 : m ≤ 140737488351232) (htm : ∀ s ∈ ss, s.size ≤ m) :
    Calls Tryd.prog 14 #[.slice A n c] w (NewPost w ss) := by
  obtain ⟨i0, hi, hz0, hz1, hz2⟩ := info_parts (show (Tryd.prog.info? 22).map (fun i => (i.zero, i.size, i.bytes)) = some (some (.slice none 0 0), 1, 24) by kernel_rfl)
  have hmm := @run_makeMap Tryd.prog
  have HL := Lib.hid hr.len
  have hst : spaces ss ≤ 1152921504606846976 := by have h1 := spaces_total ss; have h2 := totalM_le ss m htm; rw [hr.len] at h2; omega
  have ht : ∀ s ∈ ss, s.size ≤ 140737488351232 := fun s hs => Nat.le_trans (htm s hs) hm2
  clear hm htm
  go_enter Tryd.func14, Tryd.ntmps14
  go_wp2
  go_loop [4, 20] (fun t i => ∃ k : Nat, k ≤ n ∧ i = .int .i64 k ∧ t = .int .i64 ((n + spaces (ss.take k) : Nat) : Int)) (fun _ i => n - (intOf i).toNat)
  case atStart => exact ⟨0, by omega, rfl, by simp [spaces]⟩
  case round =>
    obtain ⟨k, hk, rfl, rfl⟩ := hrel
    by_cases hlt : k < n
    · have hks : k < ss.length := by rw [HL.out]; exact hlt
      obtain ⟨ad, rfl, had, hc0⟩ := hr.at_ (k := k) hks
      have hsp := spaces_succ ss k hks
      have hsl := spaces_le ss k
      have hsl2 := spaces_le ss (k + 1)
      have hcc := count_any ss[k] w
      rw [hsp] at hsl2
      have HSP := Lib.hid hsp; clear hsp
      generalize ss[k] = x at hc0 hcc hsl2 HSP
      generalize (bl x).count 32 = q at hcc hsl2 HSP
      go_wp2_with (go_at_call 36; refine hcc.mono ?_; rintro e w' ⟨rfl, rfl⟩)
      go_round
      case rel => exact ⟨k + 1, by omega, by go_num, by rw [HSP.out]; go_num⟩
      case measure => simp [intOf]; omega
    · obtain rfl : k = n := by omega
      rw [show ss.take k = ss from List.take_of_length_le (by rw [HL.out]; exact Nat.le_refl _)]
      have htp : totalP ss = k + spaces ss := by rw [totalP_eq, spaces, HL.out]; omega
      by_cases hbig : 256 < k + spaces ss
      · have hE : newErr ss = 12 := by unfold newErr; rw [if_pos (by rw [htp]; exact hbig)]
        have HE := Lib.hid hE; clear hE htp
        go_wp2
        go_ret2
        exact ⟨fun _ => by rw [HE.out]; rfl, fun h => by rw [HE.out] at h; omega, Below.refl _ _⟩
      · have HE : Hid (newErr ss = if (groupsB ss).flatten.all (fun x => letterB (bl x)) = false then 15 else if dupB (groupsB ss).flatten then 6 else 0) := by
          unfold newErr Hid; rw [if_neg (by rw [htp]; exact hbig)]
        have HTP := Lib.hid htp; clear htp
        have hblk0 : Blk ((w.alloc (.map #[] 0)).alloc (.cells (Tryd.zeroCells74.setIfInBounds 1 (.map (some w.heap.size))) 74)) (w.heap.size + 1) 74 (Tryd.zeroCells74.setIfInBounds 1 (.map (some w.heap.size))) := by
          have := Blk.new (w.alloc (.map #[] 0)) 74 (Tryd.zeroCells74.setIfInBounds 1 (.map (some w.heap.size)))
          rwa [World.size_alloc] at this
        have hS0 : NewSt ((w.alloc (.map #[] 0)).alloc (.cells (Tryd.zeroCells74.setIfInBounds 1 (.map (some w.heap.size))) 74)) w.heap.size (w.heap.size + 1) (w.heap.size + 2) (.slice none 0 0) [] [] false :=
          ⟨⟨_, hblk0, alphCells0 _⟩, OwnM.nil_ _ _ _ _, (MapSI.made w).below ((Below.refl _ _).alloc (Nat.le_refl _) _), by simp, by simp [dupB]⟩
        have hb0 : Below w.heap.size w ((w.alloc (.map #[] 0)).alloc (.cells (Tryd.zeroCells74.setIfInBounds 1 (.map (some w.heap.size))) 74)) := ((Below.refl _ w).alloc (Nat.le_refl _) _).alloc (by simp) _
        clear hblk0
        have HS0 := Lib.hid hS0; have HB0 := Lib.hid hb0; clear hS0 hb0
        go_wp2
        go_loopw [8, 36] (fun t i wr => ∃ (j : Nat) (tw : Bool) (v : Value), j ≤ k ∧ i = .int .i64 j ∧ t = .bool tw ∧ NewSt wr w.heap.size (w.heap.size + 1) (w.heap.size + 2) v (groupsB (ss.take j)) (ents (groupsB (ss.take j))) tw ∧ Below w.heap.size w wr) (fun _ i _ => k - (intOf i).toNat)
        case atStart => exact ⟨0, false, .slice none 0 0, by omega, rfl, rfl, HS0.out, HB0.out⟩
        case round =>
          obtain ⟨j, tw, v, hj, rfl, rfl, hS, hb⟩ := hrel
          have HS := Lib.hid hS; clear hS HS0 HB0
          by_cases hlt : j < k
          · have hks : j < ss.length := by rw [HL.out]; exact hlt
            obtain ⟨ad, rfl, had, hc0⟩ := hr.at_ (k := j) hks
            have hcr := (hb.cell (p := ad.add j) (by rw [block_of_add]; exact had)).trans hc0
            have hsz : ss[j].size ≤ 140737488351232 := ht _ (List.getElem_mem _)
            have hfew : (bl ss[j]).count 32 ≤ 1000 := by have h1 := spaces_succ ss j hks; have h2 := spaces_le ss (j + 1); omega
            have hsc := split_few ss[j] wr hsz hfew
            clear hc0
            go_wp2_with fail
            refine hsc.mono ?_
            rintro e w1 ⟨u, rfl, hu, hbu⟩
            obtain ⟨Au, cu, rfl, hcu1, hcu2⟩ := ownsRow_form hu
            have hu' := own_mono hu (show w.heap.size + 2 ≤ wr.heap.size by have := HS.out.1; obtain ⟨cs, h1, _⟩ := this; have := h1.lt; have := hb.size; omega)
            have hb1 := hb.trans (hbu.mono hb.size)
            have hS1 := HS.out.below hbu
            have hRu : ReadS w1 w1.heap.size Au (piecesB ss[j]).length (piecesB ss[j]) := by have := Reads.of_own hu; exact this
            have hes : ents (groupsB (ss.take (j + 1))) = ents (groupsB (ss.take j)) ++ (piecesB ss[j]).map (·, j) := by
              have hg : groupsB (ss.take (j + 1)) = (groupsB ss).take (j + 1) := by unfold groupsB; rw [List.map_take]
              have hg' : groupsB (ss.take j) = (groupsB ss).take j := by unfold groupsB; rw [List.map_take]
              rw [hg, hg', ents_take_succ (by simp [groupsB, HL.out]; omega)]; congr 2; simp [groupsB]
            have hGs : groupsB (ss.take (j + 1)) = groupsB (ss.take j) ++ [piecesB ss[j]] := by
              unfold groupsB; rw [List.take_succ_eq_append_getElem hks, List.map_append]; rfl
            have hpm : ∀ x ∈ piecesB ss[j], x ∈ (groupsB ss).flatten := fun x hx => List.mem_flatten.2 ⟨_, List.mem_map.2 ⟨ss[j], List.getElem_mem _, rfl⟩, hx⟩
            have hps : ∀ x ∈ piecesB ss[j], x.size ≤ 140737488351232 := fun x hx => Nat.le_trans (piecesB_size hx) hsz
            have hpl := piecesB_le ss[j]
            have htotal : (ents (groupsB (ss.take (j + 1)))).length ≤ 256 := by
              have e1 : (ents (groupsB (ss.take (j + 1)))).length = totalP (ss.take (j + 1)) := by
                rw [totalP, ← ents_fst, List.length_map]
              have e2 := spaces_le ss (j + 1)
              rw [e1, totalP_eq, ← spaces, List.length_take, HL.out]; omega
            rw [hes, List.length_append, List.length_map] at htotal
            generalize hP : piecesB ss[j] = P at *
            generalize groupsB (ss.take j) = gs0 at *
            generalize ents gs0 = es0 at *
            generalize ss[j] = sj at *
            have HES := Lib.hid hes; have HGS := Lib.hid hGs; have HPM := Lib.hid hpm; have HPS := Lib.hid hps; have HRU := Lib.hid hRu; have HS1 := Lib.hid hS1; have HU := Lib.hid hu'
            clear hes hGs hpm hps hRu hS1 hu' hu HS hsc hbu hcr hP
            go_wp2_with fail
            go_loopw [8, 45] (fun t i wr => ∃ (q : Nat) (tw : Bool), q ≤ P.length ∧ i = .int .i64 q ∧ t = .bool tw ∧ NewSt wr w.heap.size (w.heap.size + 1) (w.heap.size + 2) v gs0 (es0 ++ (P.take q).map (·, j)) tw ∧ (∀ b, w.heap.size + 2 ≤ b → b < w1.heap.size → wr.heap[b]? = w1.heap[b]?) ∧ w1.heap.size ≤ wr.heap.size ∧ Below w.heap.size w wr) (fun _ i _ => P.length - (intOf i).toNat)
            case atStart => exact ⟨0, tw, by omega, rfl, rfl, by simpa using HS1.out, fun _ _ _ => rfl, Nat.le_refl _, hb1⟩
            case round =>
              obtain ⟨q, tw1, hq, rfl, rfl, hS, hbl, hsz1, hb⟩ := hrel
              have HS := Lib.hid hS; have HBL := Lib.hid hbl; clear hS hbl HS1
              by_cases hql : q < P.length
              · have hRw : ReadS wr wr.heap.size Au P.length P := Reads.of_own (own_blocks HU.out HBL.out)
                obtain ⟨ad1, hA1, _, hcq⟩ := hRw.at_ (k := q) hql
                subst hA1
                have hxs := HPS.out P[q] (List.getElem_mem _)
                have hxm := HPM.out P[q] (List.getElem_mem _)
                have htk : es0 ++ (P.take (q + 1)).map (·, j) = (es0 ++ (P.take q).map (·, j)) ++ [(P[q], j)] := by
                  rw [List.take_succ_eq_append_getElem hql, List.map_append, List.append_assoc]; rfl
                have hel : (es0 ++ (P.take q).map (·, j)).length < 256 := by rw [List.length_append, List.length_map, List.length_take]; omega
                have hca := contains_any P[q] wr
                generalize hX : P[q] = x at hcq hxs hxm htk hca
                generalize es0 ++ (P.take q).map (·, j) = es at *
                have HXM := Lib.hid hxm; have HTK := Lib.hid htk; clear hRw hxm htk hX
                by_cases hgood : letterB (bl x) = true
                · have hg2 := hgood
                  unfold letterB at hg2
                  simp only [Bool.and_eq_true, decide_eq_true_eq, bl_len] at hg2
                  obtain ⟨⟨hx1, hx8⟩, hall⟩ := hg2
                  rw [hall] at hca
                  have HG := Lib.hid hgood; clear hgood hall
                  obtain ⟨⟨cs, hblk, hcs⟩, hM, hmap, hlets, htw⟩ := HS.out
                  have hxl : x.size ≤ maxLen := by unfold maxLen; omega
                  have hnb : w.heap.size ≠ w.heap.size + 1 := by omega
                  have hc1 := hcs.2.2.1
                  have hx0 : firstB x = x[0] := by
                    unfold firstB; cases hb0 : bl x with
                    | nil => have := bl_len x; rw [hb0] at this; simp at this; omega
                    | cons c t => have h0 : (bl x)[0]'(by rw [bl_len]; omega) = x[0] := rfl
                                  rw [← h0]; simp [hb0]
                  have hcb := hcs.2.2.2 x[0]
                  have hmb := mostF_nonneg es x[0]
                  have hm8 := mostF_le es x[0] (fun e he => by have := hlets e he; unfold letterB at this; simp only [Bool.and_eq_true, decide_eq_true_eq, bl_len] at this; exact this.1.2)
                  generalize hmv : mostF es x[0] = mv at hcb hmb hm8
                  have HMV := Lib.hid hmv; have HX0 := Lib.hid hx0; clear hmv hx0
                  have HCS := Lib.hid hcs; have HLETS := Lib.hid hlets; have HTW := Lib.hid htw; clear hcs hlets htw
                  have hstep := fun (w2 w3 : World) h1 h2 h3 => HS.out.step (w2 := w2) (w3 := w3) (x := x) (j := j) (b := x[0]) (mv := mv) (by omega) (by omega) hnb h1 h2 h3 HX0.out HMV.out HG.out
                  have HSTEP := Lib.hid hstep; clear hstep
                  cases hsome : (placeF es x).isSome
                  all_goals
                    go_wp2_with (first
                      | (go_at_call 38; refine hca.mono ?_; rintro e w2 ⟨rfl, hb2⟩; have hmap2 := hmap.below hb2; have hblk2 := hblk.below hb2 hblk.lt; have hlook := hmap2.look x hxl; rw [hsome] at hlook; have hcm := (hblk2.cell 1).trans hc1)
                      | (at_mapUpdate; refine wpList_putSI rfl (.tmp 74) (.tmp 75) (.tmp 76) rfl w.heap.size es.length (placeF es) rfl hmap2 (by unfold maxLen; omega) x hxl j (WalkArith.wf_i64 (by omega)) rfl rfl ?_; intro w3 hmap3 hg3; have hblk3 := hblk2.grown hg3 (by simp); have hcb3 := (hblk3.cell (2 + x[0].toNat)).trans hcb; have hfz3 := hblk3.frozen (2 + x[0].toNat)))
                    have HST := Lib.hid (HSTEP.out w2 w3 hb2 hmap3 hg3)
                    have HB2 := Lib.hid hb2; have HG3 := Lib.hid hg3
                    clear hca hmap2 hblk2 hlook hcm hmap hblk hM hmap3 hblk3 hr hst hc1 hcb HSTEP hb2 hg3
                    have hxp : 0 < x.size := by omega
                    have hx256 : (x[0].toNat : Int) < 256 := by have := x[0].toNat_lt; omega
                    go_still_tail 16, (by kernel_rfl)
                    go_wp2
                    go_roundw
                    case rel =>
                      have hlt3 : w2.heap.size ≤ w3.heap.size := HG3.out.size
                      have hlt2 : wr.heap.size ≤ w2.heap.size := HB2.out.size
                      have hbsz := hb.size
                      refine ⟨q + 1, _, by omega, by go_num, rfl, ?_, fun b hb1 hb2 => ?_, ?_, ?_⟩
                      · rw [HTK.out]
                        have h := HST.out
                        rw [hsome] at h
                        first
                          | (rw [Bool.or_false] at h; exact h)
                          | (rw [Bool.or_true] at h; exact h)
                      · refine Eq.trans (Below.heap_setCell _ _ _ _ (by simp; omega)) ?_
                        exact ((HG3.out.block b (by omega) (fun e => by injection e with e; omega)).trans (HB2.out.block b (by omega))).trans (HBL.out b hb1 hb2)
                      · simp [World.setCell]; omega
                      · exact ((hb.trans (HB2.out.mono hb.size)).grown HG3.out (by omega) (fun r e => by injection e with e; omega)).trans (((Below.refl _ w3).setCell (p := ⟨w.heap.size + 1, 2 + x[0].toNat, none⟩) (by simp) _).drew)
                    case measure => simp [intOf]; omega
                · have hbad : newErr ss = 15 := by
                    rw [HE.out, if_pos]
                    rw [List.all_eq_false]; exact ⟨x, HXM.out, hgood⟩
                  have HB := Lib.hid hbad; clear hbad
                  have fin : ∀ w' : World, Below w.heap.size w w' → NewPost w ss (.returned (.tuple #[.pointer none, .int .i64 15])) w' := fun w' hb' =>
                    ⟨fun _ => by rw [HB.out], fun h => by rw [HB.out] at h; omega, hb'⟩
                  have FIN := Lib.hid fin; clear fin
                  by_cases h1 : x.size < 1
                  · clear hca
                    go_wp2
                    go_ret2
                    exact FIN.out _ hb
                  · by_cases h8 : 8 < x.size
                    · clear hca
                      go_wp2
                      go_ret2
                      exact FIN.out _ hb
                    · have hall : ((bl x).all fun c => decide (32 < c.toNat)) = false := by
                        rw [Bool.eq_false_iff]; intro h; apply hgood
                        unfold letterB; rw [h, bl_len, decide_eq_true (by omega), decide_eq_true (by omega)]; rfl
                      rw [hall] at hca
                      clear hgood hall
                      go_wp2_with (go_at_call 38; refine hca.mono ?_; rintro e w2 ⟨rfl, hb2⟩)
                      go_ret2
                      exact FIN.out _ (hb.trans (hb2.mono hb.size))
              · obtain rfl : q = P.length := by omega
                rw [List.take_length] at HS
                obtain ⟨⟨cs, hblk, hcs⟩, hM, hmap, hlets, htw⟩ := HS.out
                have hbsz := hb.size
                have hblt := hblk.lt
                have hu1 : wr.ownsRow (w.heap.size + 2) 9 1 (.slice Au P.length cu) P.length (strs P) := own_blocks HU.out HBL.out
                obtain ⟨vs, hvs, hvl, hvk⟩ := id hM
                obtain ⟨Av, cv, rfl, hcv1, hcv2⟩ := ownsRow_form hvs
                have hgl : (strM gs0).length = j := by
                  have := congrArg List.length HGS.out
                  simp [groupsB, HL.out] at this
                  simp; omega
                rw [hgl] at hvs hcv1
                have hc0 := (hblk.cell 0).trans hcs.2.1
                rw [hgl] at hc0
                rw [hgl] at hM
                have HCS := Lib.hid hcs; have HM := Lib.hid hM; have HMAP := Lib.hid hmap; have HLT := Lib.hid hlets; have HTW := Lib.hid htw; have HU1 := Lib.hid hu1; have HGL := Lib.hid hgl
                clear hcs hM hmap hlets htw hu1 hgl hvk hvl
                go_wp2_with (at_builtin; refine wpList_append_own _ rfl _ _ 28 rfl (w.heap.size + 2) 22 i0 (.slice none 0 0) 1 24 Tryd.underlying28 hi hz0 hz1 hz2 rfl (by decide) _ _ _ rfl (hvs.alloc _) ⟨wr.heap.size, 0, none⟩ 1 1 [.slice Au P.length cu] rfl rfl (cell_one_new _ _ _) (by simp [Value.oneCell']) (by unfold maxLen; omega) (by omega) (by simp; omega) ?_; intro v' w2 hown' hgrow _; obtain ⟨A2, c2, rfl, _, _⟩ := ownsRow_form hown'; have hblk2 := (hblk.alloc _).grown hgrow (fun e => own_blk_ne hvs hblk (by decide) e.symm); have hst2 := (hblk2.cell 0).trans HCS.out.2.1; have hfz2 := hblk2.frozen 0)
                have hb2 : Below w.heap.size w w2 := (hb.alloc hb.size _).grown hgrow (by simp; omega) (fun g hg => by have := (hvs.lt g hg).1; omega)
                have hM2 := (HM.out.alloc (.cells #[.slice Au P.length cu] 22)).push (u := .slice Au P.length cu) (xs := strs P) (by decide) (by rw [List.length_map]; exact HU1.out.alloc _) (v := .slice Av j cv) (hvs.alloc _) hgrow hown'
                have hmap2 := (HMAP.out.below ((Below.refl _ _).alloc (Nat.le_refl _) (.cells #[.slice Au P.length cu] 22))).kept hgrow (fun e => by have := (hvs.lt _ e.symm).1; omega)
                have HM2 := Lib.hid hM2; have HMAP2 := Lib.hid hmap2; have HB2 := Lib.hid hb2
                clear hgrow hvs hown' hM2 hmap2 hb2
                go_roundw
                case rel =>
                  have hbk := hblk2
                  refine ⟨j + 1, tw1, .slice A2 (j + 1) c2, by omega, by go_num, rfl, ?_, HB2.out.setCell (p := ⟨w.heap.size + 1, 0, none⟩) (by simp) _⟩
                  refine ⟨⟨_, hbk.set_ 0 _, ?_⟩, ?_, ?_, ?_, ?_⟩
                  · obtain ⟨a1, a2, a3, a4⟩ := HCS.out
                    rw [HES.out]
                    exact ⟨by simpa using a1, by rw [Array.getElem?_setIfInBounds_self_of_lt (by omega)], by rw [Array.getElem?_setIfInBounds_ne (by omega)]; exact a3, fun b => by rw [Array.getElem?_setIfInBounds_ne (by omega)]; exact a4 b⟩
                  · rw [HGS.out, strM, List.map_append]
                    exact HM2.out.low (grown_setCell _ _ _) (fun r e => by cases e; simp)
                  · rw [HES.out]
                    exact HMAP2.out.kept (grown_setCell _ _ _) (fun e => by injection e with e; simp at e)
                  · rw [HES.out]; exact HLT.out
                  · rw [HES.out]; exact HTW.out
                case measure => simp [intOf]; omega
          · obtain rfl : j = k := by omega
            rw [show ss.take j = ss from List.take_of_length_le (by rw [HL.out]; exact Nat.le_refl _)] at HS
            obtain ⟨hC, hM, hmap, hlets, htw⟩ := HS.out
            rw [show List.map Prod.fst (ents (groupsB ss)) = (groupsB ss).flatten from ents_fst _] at htw
            have hall : ∀ x ∈ (groupsB ss).flatten, letterB (bl x) = true := fun x hx => by
              rw [← ents_fst] at hx
              obtain ⟨e, he, rfl⟩ := List.mem_map.1 hx
              exact hlets e he
            have hE1 : newErr ss = if dupB (groupsB ss).flatten then 6 else 0 := by
              rw [HE.out, if_neg]
              rw [List.all_eq_true.2 hall]; decide
            have HALL := Lib.hid hall; have HTW := Lib.hid htw; have HMAP := Lib.hid hmap; have HM := Lib.hid hM; have HC := Lib.hid hC
            clear hall htw hmap hM hC hlets HE
            cases htwc : tw
            · have hE2 : newErr ss = 0 := by rw [hE1, ← HTW.out, htwc]; rfl
              have HE2 := Lib.hid hE2
              have hgood : GoodG (groupsB ss) := ⟨by
                have := HTW.out; rw [htwc] at this
                unfold dupB at this
                simpa using this.symm, HALL.out⟩
              have HGD := Lib.hid hgood
              clear hE1 hE2 htwc hgood
              go_wp2
              go_ret2
              obtain ⟨cs, hb1, hb2⟩ := HC.out
              exact ⟨fun h => absurd HE2.out h, fun _ => ⟨_, rfl, ⟨_, _, _, _, cs, hb1, hb2, HM.out, HMAP.out⟩, HGD.out⟩, hb⟩
            · have hE2 : newErr ss = 6 := by rw [hE1, ← HTW.out, htwc]; rfl
              have HE2 := Lib.hid hE2
              clear hE1 hE2 htwc
              go_wp2
              go_ret2
              exact ⟨fun _ => by rw [HE2.out]; rfl, fun h => by rw [HE2.out] at h; omega, hb⟩
theorem newW_any (A : Option Addr) (n c : Nat) (ss : List ByteArray) (w : World) (hr : ReadS w w.heap.size A n ss) (hn : n ≤ 1000) (ht : ∀ s ∈ ss, s.size ≤ 140737488351232) :
    Calls Tryd.prog 14 #[.slice A n c] w (NewPost w ss) := newM_any A n c 140737488351232 ss w hr (by omega) (by omega) (Nat.le_refl _) ht
end Go.Proofs.YtgkpoopiamicnaaDoor
