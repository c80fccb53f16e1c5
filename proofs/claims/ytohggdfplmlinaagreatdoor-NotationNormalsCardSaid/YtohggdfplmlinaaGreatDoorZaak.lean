/-
  layer 4: the methods of strings.Builder, laid by their names. Conditions: none.
-/
import Derived.Test.YtohggdfplmlinaaGreatDoorZaNtV
import Derived.Test.YtohggdfplmlinaaGreatDoorShelf
import Derived.Shelf.Strings.BuilderK
import Derived.Lib.OthersKept
namespace Go.Proofs.YtohggdfplmlinaaGreatDoor
open Go.RowKit Go.Lib Go.Shelf

def wrRen : Go.Shelf.Ren := ⟨fun | 166 => 36 | 167 => 35 | 240 => 69 | 276 => 90 | n => n, fun | 9 => 9 | 3 => 3 | 4 => 4 | 20 => 20 | 72 => 70 | 70 => 67 | 37 => 68 | 75 => 73 | 164 => 132 | 5 => 5 | 80 => 71 | n => n, fun n => n⟩
theorem lays166 : Go.Proofs.Lays.n166 Tryz.prog wrRen := {
  mixed := by kernel_rfl
  f166 := Tryz.func36.trans (congrArg some (by kernel_rfl))
  f240 := Tryz.func69.trans (congrArg some (by kernel_rfl))
  f276 := Tryz.func90.trans (congrArg some (by kernel_rfl))
  t0 := Tryz.underlying0
  a0 := Tryz.isAgg0
  z0 := Tryz.sizeOf0
  v0 := Tryz.zeroValue0
  t3 := Tryz.underlying3
  a3 := Tryz.isAgg3
  z3 := Tryz.sizeOf3
  v3 := Tryz.zeroValue3
  t4 := Tryz.underlying4
  a4 := Tryz.isAgg4
  z4 := Tryz.sizeOf4
  v4 := Tryz.zeroValue4
  t9 := Tryz.underlying9
  a9 := Tryz.isAgg9
  z9 := Tryz.sizeOf9
  v9 := Tryz.zeroValue9
  t20 := Tryz.underlying20
  a20 := Tryz.isAgg20
  z20 := Tryz.sizeOf20
  v20 := Tryz.zeroValue20
  t37 := Tryz.underlying68
  a37 := Tryz.isAgg68
  z37 := Tryz.sizeOf68
  v37 := Tryz.zeroValue68
  t70 := Tryz.underlying67
  a70 := Tryz.isAgg67
  z70 := Tryz.sizeOf67
  v70 := Tryz.zeroValue67
  t72 := Tryz.underlying70
  a72 := Tryz.isAgg70
  z72 := Tryz.sizeOf70
  v72 := Tryz.zeroValue70
  t75 := Tryz.underlying73
  a75 := Tryz.isAgg73
  z75 := Tryz.sizeOf73
  v75 := Tryz.zeroValue73
  t164 := Tryz.underlying132
  a164 := Tryz.isAgg132
  z164 := Tryz.sizeOf132
  v164 := Tryz.zeroValue132 }
theorem lays167 : Go.Proofs.Lays.n167 Tryz.prog wrRen := {
  mixed := by kernel_rfl
  f167 := Tryz.func35.trans (congrArg some (by kernel_rfl))
  f240 := Tryz.func69.trans (congrArg some (by kernel_rfl))
  f276 := Tryz.func90.trans (congrArg some (by kernel_rfl))
  t0 := Tryz.underlying0
  a0 := Tryz.isAgg0
  z0 := Tryz.sizeOf0
  v0 := Tryz.zeroValue0
  t4 := Tryz.underlying4
  a4 := Tryz.isAgg4
  z4 := Tryz.sizeOf4
  v4 := Tryz.zeroValue4
  t5 := Tryz.underlying5
  a5 := Tryz.isAgg5
  z5 := Tryz.sizeOf5
  v5 := Tryz.zeroValue5
  t9 := Tryz.underlying9
  a9 := Tryz.isAgg9
  z9 := Tryz.sizeOf9
  v9 := Tryz.zeroValue9
  t20 := Tryz.underlying20
  a20 := Tryz.isAgg20
  z20 := Tryz.sizeOf20
  v20 := Tryz.zeroValue20
  t37 := Tryz.underlying68
  a37 := Tryz.isAgg68
  z37 := Tryz.sizeOf68
  v37 := Tryz.zeroValue68
  t70 := Tryz.underlying67
  a70 := Tryz.isAgg67
  z70 := Tryz.sizeOf67
  v70 := Tryz.zeroValue67
  t72 := Tryz.underlying70
  a72 := Tryz.isAgg70
  z72 := Tryz.sizeOf70
  v72 := Tryz.zeroValue70
  t75 := Tryz.underlying73
  a75 := Tryz.isAgg73
  z75 := Tryz.sizeOf73
  v75 := Tryz.zeroValue73
  t164 := Tryz.underlying132
  a164 := Tryz.isAgg132
  z164 := Tryz.sizeOf132
  v164 := Tryz.zeroValue132 }
theorem wrExtra : Builder.Extra Tryz.prog wrRen := {
  sizeBuilder := by kernel_rfl
  liesBuilder := by kernel_rfl
  t5 := Tryz.underlying5
  a5 := Tryz.isAgg5
  z5 := Tryz.sizeOf5
  v5 := Tryz.zeroValue5
  infoByte := by kernel_rfl
  cellsByte := by kernel_rfl
  sizeByte := by kernel_rfl
  neB5 := by decide }
theorem writeString_any (B b : Nat) (bs : List Value) (s : ByteArray) (w : World) (h : Lib.IsBuilderF 70 5 B b bs w) (hlen : bs.length + s.size ≤ 140737488355328) (hBw : B ≤ w.heap.size) :
    Calls Tryz.prog 36 #[.pointer (some ⟨b, 0, none⟩), .string s] w fun e w' => e = .returned (.tuple #[.int .i64 s.size, .nilIface]) ∧ (Lib.BuilderAtF 70 5 B b (.pointer (some ⟨b, 0, none⟩)) (bs ++ Lib.strCells s) w' ∧ Below B w w' ∧ Lib.OthersKept 5 (some b) w w') :=
  Any.Builder_WriteString_k lays166 wrExtra B b bs s w h hlen hBw
theorem writeByte_any (B b : Nat) (bs : List Value) (c : Int) (w : World) (h : Lib.IsBuilderF 70 5 B b bs w) (hlen : bs.length + 1 ≤ 140737488355328) (hBw : B ≤ w.heap.size) :
    Calls Tryz.prog 35 #[.pointer (some ⟨b, 0, none⟩), .int .u8 c] w fun e w' => e = .returned .nilIface ∧ (Lib.BuilderAtF 70 5 B b (.pointer (some ⟨b, 0, none⟩)) (bs ++ [.int .u8 c]) w' ∧ Below B w w' ∧ Lib.OthersKept 5 (some b) w w') :=
  Any.Builder_WriteByte_k lays167 wrExtra B b bs c w h hlen hBw
theorem string_any (B b : Nat) (l : List UInt8) (w : World) (h : Lib.IsBuilderF 70 5 B b (Lib.byteCells l) w) (hBw : B ≤ w.heap.size) :
    Calls Tryz.prog 33 #[.pointer (some ⟨b, 0, none⟩)] w fun e w' => e = .returned (.string ⟨l.toArray⟩) ∧ (Lib.IsBuilderF 70 5 B b (Lib.byteCells l) w' ∧ Below B w w' ∧ Lib.OthersKept 5 (some b) w w') :=
  Any.Builder_String_any_k Tryz.lays169 Tryz.Builder_Extra_169 B b l w h hBw
theorem isBuilder_chg {T e : TypeId} {B b : Nat} {bs : List Value} {S : Nat → Prop} {w w' : World} (h : Lib.IsBuilderF T e B b bs w) (hc : ChgS S w w') (hS : ∀ k, B ≤ k → ¬ S k) : Lib.IsBuilderF T e B b bs w' := by
  have one : ∀ p, Lib.BuilderAtF T e B b p bs w → Lib.BuilderAtF T e B b p bs w' := by
    rintro p ⟨hB, v, h1, ⟨h2, h3⟩, h4⟩
    have hl : b < w.heap.size := (Array.getElem?_eq_some_iff.1 h1).1
    refine ⟨hB, v, (hc.block b hl (hS b hB)).trans h1, ⟨h2, ?_⟩, h4⟩
    rcases h3 with h3 | ⟨g, cap, cur, fz, e1, e2, e3, e4⟩
    · exact .inl h3
    · have hg : g < w.heap.size := (Array.getElem?_eq_some_iff.1 e3).1
      exact .inr ⟨g, cap, cur, fz, e1, e2, (hc.block g hg (hS g e2)).trans e3, e4⟩
  exact h.imp (one _) (one _)
theorem byteCells_one (l : List UInt8) (c : UInt8) : Lib.byteCells l ++ [.int .u8 (c.toNat : Int)] = Lib.byteCells (l ++ [c]) := by
  simp [Lib.byteCells]
theorem byteCells_str (l : List UInt8) (t : ByteArray) : Lib.byteCells l ++ Lib.strCells t = Lib.byteCells (l ++ bs t) := by
  simp [Lib.byteCells, Lib.strCells, bs]
theorem byteCells_len (l : List UInt8) : (Lib.byteCells l).length = l.length := by simp [Lib.byteCells]
theorem ChgS.of_at {B : Nat} {w w' : World} (h : Below B w w') : ChgS (fun k => B ≤ k) w w' := ⟨h.os, h.tape, h.output, h.size, fun k _ hk => h.block k (by omega)⟩
end Go.Proofs.YtohggdfplmlinaaGreatDoor
namespace Go.Proofs.YtohggdfplmlinaaGreatDoor
open Go.RowKit Go.Lib

section
variable {L : List Nam} {ms : List Mk}
theorem bestS_len {s : Snd} {n : Nat} (hL : ∀ x ∈ L, x.1.size ≤ 4) (hm : ∀ m ∈ ms, m.text.size ≤ 3) (hn : 10 ≤ n) : (bestS L ms s).length ≤ n := by
  have h : ∀ (l : List (List UInt8)) (b : List UInt8), (∀ t ∈ l, t.length ≤ 10) → b.length ≤ 10 → (l.foldl (tryS L ms s) b).length ≤ 10 := by
    intro l
    induction l with
    | nil => exact fun b _ h => h
    | cons t l ih => exact fun b hl hb => ih _ (fun u hu => hl u (List.mem_cons_of_mem _ hu)) (tryS_len hb (hl t List.mem_cons_self))
  refine Nat.le_trans (h _ _ ?_ (Nat.zero_le _)) hn
  intro t ht
  unfold cands cands1 at ht
  obtain ⟨x, hx, ht⟩ := List.mem_flatMap.1 ht
  have hx4 := hL x hx
  rcases List.mem_cons.1 ht with rfl | ht
  · rw [size_bs]; omega
  · obtain ⟨a, ha, ht⟩ := List.mem_flatMap.1 ht
    have ha3 := hm a ha
    rcases List.mem_cons.1 ht with rfl | ht
    · rw [List.length_append, size_bs, size_bs]; omega
    · obtain ⟨c, hc, rfl⟩ := List.mem_map.1 ht
      have hc3 := hm c hc
      rw [List.length_append, List.length_append, size_bs, size_bs, size_bs]; omega
theorem joinS_len (done : List Snd) (out x : List UInt8) (s : Snd) : (joinS L ms done out x s).length ≤ out.length + x.length + 1 := by
  unfold joinS
  split
  · rw [List.length_append]; omega
  · rw [List.length_append, List.length_append, List.length_singleton]; omega
theorem printK_next {done : List Snd} {s : Snd} {rest : List Snd} {out : List UInt8} {r : Option (List UInt8)} (h : printK L ms done out (s :: rest) = r) (hb : bestS L ms s ≠ []) : printK L ms (done ++ [s]) (joinS L ms done out (bestS L ms s) s) rest = r := by
  unfold printK at h
  rwa [if_neg hb] at h
theorem printK_none {done : List Snd} {s : Snd} {rest : List Snd} {out : List UInt8} {r : Option (List UInt8)} (h : printK L ms done out (s :: rest) = r) (hb : bestS L ms s = []) : r = none := by
  unfold printK at h
  rw [if_pos hb] at h
  exact h.symm
end
/-- What Print does. -/
def PrintPost (w : World) (S : Nat → Prop) (g : Nat) (fs : List ByteArray) (L : List Nam) (ms : List Mk) (N : Nat) (R : List UInt8 × Int) (e : Ending) (w' : World) : Prop :=
  e = .returned (.tuple #[.string (asB R.1), .int .i64 R.2]) ∧ NotN w' S g fs L ms (N + 32) ∧ ChgS S w w'
section
variable {w : World} {S : Nat → Prop} {g N : Nat} {fs : List ByteArray} {L : List Nam} {ms : List Mk}
set_option linter.unusedSimpArgs false in
set_option maxRecDepth 20000 in
set_option maxHeartbeats 4000000 in
theorem print_any (A : Option Addr) (n c : Nat) (ws : List Snd) (T : Nat → Prop) (h : NotN w S g fs L ms N) (hS : ∀ b, S b → b < w.heap.size) (hr : RowS w T 2 A n (ws.flatMap sndC)) (hT : ∀ b, T b → ¬ S b) (hn : n ≤ c) (hc : c ≤ maxLen) (hok : ∀ s ∈ ws, ok32 s) (hN : N < 1000000 - 40) :
    Calls Tryz.prog 10 #[wptr g, .slice A n c] w (PrintPost w S g fs L ms N (printR L ms ws)) := by
  have hv := nvalid_any (⟨N, h⟩ : NotM w S g fs L ms)
  have hl := hr.reads.len_of (fun _ => rfl) (by decide)
  subst hl
  have hwc := wordCheck_any A ws.length c w.heap.size ws w hr.reads (Nat.le_refl _) (Nat.le_trans hn hc) hok
  have hLs : (∀ x ∈ L, x.1.size ≤ 4) ∧ (∀ m ∈ ms, m.text.size ≤ 3) := by
    obtain ⟨gi, A, c, bm, n, f, -, h2, -, -, -, -, h6⟩ := h
    exact ⟨fun x hx => sym_size (h2.ok.sym x hx).1, mark_size h6⟩
  have HV := Lib.hid hv; have HW := Lib.hid hwc; have HLS := Lib.hid hLs; have H := Lib.hid h; have HR := Lib.hid hr; have HOK := Lib.hid hok
  clear hv hwc hLs h hr hok
  unfold maxLen at hc
  go_enter Tryz.func10, Tryz.ntmps10
  go_wp2_with fail
  refine HV.out.mono ?_
  rintro e w1 ⟨rfl, rfl⟩
  go_wp2_with fail
  refine HW.out.mono ?_
  rintro e w1 ⟨rfl, hb1⟩
  by_cases hE : wordE ws = 0
  · have e1 : (wordE ws != 0) = false := by rw [hE]; rfl
    have hw32 : ws.length ≤ 32 := by
      unfold wordE at hE
      split at hE
      · cases hE
      · omega
    have hpr : ∀ o, printK L ms [] [] ws = some o → printR L ms ws = (o, 0) := fun o ho => by unfold printR; rw [if_pos hE, ho]
    have hpn : printK L ms [] [] ws = none → printR L ms ws = ([], 14) := fun ho => by unfold printR; rw [if_pos hE, ho]
    have HPR := Lib.hid hpr; have HPN := Lib.hid hpn
    have h1s := hb1.size
    have hwb : Below w.heap.size w (w1.alloc (.cells #[.pointer none, .slice none 0 0] 70)) := hb1.alloc h1s _
    have hb0 : (w1.alloc (.cells #[.pointer none, .slice none 0 0] 70)).heap[w1.heap.size]? = some (.cells #[.pointer none, .slice none 0 0] 70 (0, 0)) := heap_alloc_new w1 _
    have hB0 : IsBuilderF 70 5 w.heap.size w1.heap.size (Lib.byteCells []) (w1.alloc (.cells #[.pointer none, .slice none 0 0] 70)) := .inl ⟨h1s, _, hb0, ⟨rfl, .inl ⟨rfl, rfl⟩⟩, by simp [Value.ownBlock]⟩
    have hN1 := H.out.below hwb
    have HB0 := Lib.hid hB0; have HN1 := Lib.hid hN1; have HWB := Lib.hid hwb
    clear hb1 hb0 hB0 hN1 hpr hpn hE
    go_wp2
    go_loopw [25] (fun i wr => ∃ (k : Nat) (out : List UInt8), k ≤ ws.length ∧ i = .int .i64 k ∧ IsBuilderF 70 5 w.heap.size w1.heap.size (Lib.byteCells out) wr ∧ out.length ≤ 11 * k ∧ printK L ms (ws.take k) out (ws.drop k) = printK L ms [] [] ws ∧ NotN wr S g fs L ms (N + k) ∧ ChgS S w wr) (fun i _ => ws.length - (RowKit.intOf i).toNat)
    case atStart => exact ⟨0, [], by omega, rfl, HB0.out, Nat.zero_le _, rfl, HN1.out, .of_below HWB.out⟩
    case round =>
      obtain ⟨k, out, hk, rfl, hbu, hol, hpk, hnn, hch⟩ := hrel
      obtain ⟨W, rfl⟩ : ∃ W, W = wr := ⟨_, rfl⟩
      have hsz := hch.size
      by_cases hlt : k < ws.length
      · have hkI : (k : Int) < (ws.length : Int) := by omega
        have hrr := HR.out.chg hch hT
        obtain ⟨ad, rfl, had, e0, e1⟩ := snd_cells hrr.reads hlt
        rw [List.drop_eq_getElem_cons hlt] at hpk
        have htk := List.take_succ_eq_append_getElem hlt
        have hs32 := HOK.out _ (List.getElem_mem hlt)
        generalize ws[k] = s at *
        have hchA := hch.alloc (.cells #[.int .u32 s.1, .int .u32 s.2] 30)
        have hba := (Below.refl W.heap.size W).alloc (Nat.le_refl _) (.cells #[.int .u32 s.1, .int .u32 s.2] 30)
        have hbuA := isBuilder_chg hbu (ChgS.of_below (S := fun _ => False) hba) (fun _ _ h => h)
        have hsd := sound_any s (hnn.below hba) (fun b hb => by have := hS b hb; rw [World.size_alloc]; omega) hs32 (by omega)
        have HSD := Lib.hid hsd; have HCHA := Lib.hid hchA; have HBU := Lib.hid hbuA; have HPK := Lib.hid hpk; have HTK := Lib.hid htk
        clear hrr hpk htk hs32 hchA hba hbuA hsd hbu hnn hch
        go_wp2_with fail
        refine HSD.out.mono ?_
        rintro e w2 ⟨rfl, hn2, hc2⟩
        have hcw := HCHA.out.trans hc2
        by_cases hbe : bestS L ms s = []
        · have hfin : PrintPost w S g fs L ms N (printR L ms ws) (.returned (.tuple #[.string ⟨#[]⟩, .int .i64 14])) w2 := by
            have := printK_none HPK.out hbe
            rw [HPN.out this]
            exact ⟨rfl, hn2.more (by omega), hcw⟩
          rw [decide_eq_false (fun h => h hbe)]
          have HFIN := Lib.hid hfin
          clear hfin hn2 hc2 hcw hbe
          go_wp2
          go_ret2
          exact HFIN.out
        · rw [decide_eq_true hbe]
          have hbl := bestS_len (s := s) HLS.out.1 HLS.out.2 (Nat.le_refl 10)
          have hpk2 := printK_next HPK.out hbe
          have hbu2 := isBuilder_chg HBU.out hc2 (fun b hb hs => by have := hS b hs; omega)
          have hs2 := hcw.size
          have hst := string_any w.heap.size w1.heap.size out w2 hbu2 hs2
          have hjl := joinS_len (L := L) (ms := ms) (ws.take k) out (bestS L ms s) s
          obtain ⟨bt, hbt⟩ : ∃ b, bestS L ms s = b := ⟨_, rfl⟩
          rw [hbt] at hbl hpk2 hjl ⊢
          have HST := Lib.hid hst; have HN2 := Lib.hid hn2; have HCW := Lib.hid hcw; have HPK2 := Lib.hid hpk2; have HJL := Lib.hid hjl
          clear hbt hbe hpk2 hbu2 hst hn2 hc2 hcw HPK HBU HSD HCHA hjl e0 e1
          go_wp2_with fail
          refine HST.out.mono ?_
          rintro e w3 ⟨rfl, hbu3, hb3, -⟩
          have hca3 := ChgS.of_at hb3
          have hn3 := HN2.out.chg hca3 (fun b hb h => by have := hS b hb; omega)
          have hcw3 : ChgS S w w3 := HCW.out.new hca3 (fun i hi h => absurd hi (by omega))
          have hs3 := hcw3.size
          have hbs : bs (asB out ++ asB bt) = out ++ bt := by rw [bs_append, bs_asB, bs_asB]
          have hps := parse_any (asB out ++ asB bt) ⟨_, hn3⟩ (by rw [← size_bs, hbs, List.length_append]; unfold maxLen; omega)
          rw [hbs] at hps
          obtain ⟨R, hR⟩ : ∃ R, readR L ms (out ++ bt) = R := ⟨_, rfl⟩
          have hR32 := readR_w32 (L := L) (ms := ms) (out ++ bt)
          rw [hR] at hps hR32
          have HPS := Lib.hid hps; have HBU3 := Lib.hid hbu3; have HN3 := Lib.hid hn3; have HCW3 := Lib.hid hcw3; have HRE := Lib.hid hR
          clear hbu3 hb3 hca3 hn3 hcw3 hps hR HST HN2 HCW
          go_wp2_with fail
          refine HPS.out.mono ?_
          rintro e w4 ⟨vw, rfl, ho4, hb4⟩
          obtain ⟨A', c', rfl, -, -⟩ := ownsRow_form ho4
          have hcw4 := HCW3.out.trans (ChgS.of_below hb4)
          have hn4 := HN3.out.below hb4
          have hbu4 := isBuilder_chg HBU3.out (ChgS.of_below (S := fun _ => False) hb4) (fun _ _ h => h)
          have hs4 := hcw4.size
          have hr1 := Reads.of_own ho4
          have hr2 := ((HR.out.chg hcw4 hT).reads).pre (show k + 1 ≤ ws.length from hlt)
          rw [take_flat sndC 2 (fun _ => rfl)] at hr2
          have heq := wEqual_any A' (some ad) R.w.length (k + 1) c' c w4.heap.size R.w (ws.take (k + 1)) w4 hr1 hr2 (Nat.le_refl _) (by unfold maxLen; omega)
          have HEQ := Lib.hid heq; have HBU4 := Lib.hid hbu4; have HN4 := Lib.hid hn4; have HCW4 := Lib.hid hcw4
          clear ho4 hb4 hcw4 hn4 hbu4 hr1 hr2 heq HPS HBU3 HN3 HCW3
          have hkc : (k : Int) + 1 ≤ (c : Int) := by omega
          have FINI : ∀ W', ChgS S w W' → NotN W' S g fs L ms (N + k + 1) → IsBuilderF 70 5 w.heap.size w1.heap.size (Lib.byteCells (joinS L ms (ws.take k) out bt s)) W' → IsBuilderF 70 5 w.heap.size w1.heap.size (Lib.byteCells (joinS L ms (ws.take k) out bt s)) W' ∧ (joinS L ms (ws.take k) out bt s).length ≤ 11 * (k + 1) ∧ printK L ms (ws.take (k + 1)) (joinS L ms (ws.take k) out bt s) (ws.drop (k + 1)) = printK L ms [] [] ws ∧ NotN W' S g fs L ms (N + (k + 1)) ∧ ChgS S w W' := fun W' h1 h2 h3 =>
            ⟨h3, by have := HJL.out; omega, by rw [HTK.out]; exact HPK2.out, h2, h1⟩
          have HFINI := Lib.hid FINI
          clear FINI
          by_cases hre : R.e = 0
          · have e1 : (R.e != 0) = false := by rw [hre]; rfl
            have e1' : (R.e == 0) = true := by rw [hre]; rfl
            by_cases hrw : R.w = ws.take (k + 1)
            · have hj : joinS L ms (ws.take k) out bt s = out ++ bt := by
                unfold joinS
                rw [HRE.out, if_pos ⟨hre, by rw [hrw, HTK.out]⟩]
              have HJ := Lib.hid hj
              have HEQ2 : Hid (Calls Tryz.prog 34 #[.slice A' R.w.length c', .slice (some ad) (k + 1) c] w4 fun e w' => e = .returned (.bool true) ∧ Below w4.heap.size w4 w') := Lib.hid (HEQ.out.mono (by rintro e w' ⟨rfl, h⟩; exact ⟨by rw [decide_eq_true hrw], h⟩))
              clear hre hrw hj HEQ
              go_wp2_with fail
              refine HEQ2.out.mono ?_
              rintro e w5 ⟨rfl, hb5⟩
              have BQ := Lib.hid (isBuilder_chg HBU4.out (ChgS.of_below (S := fun _ => False) hb5) (fun _ _ h => h)); have NQ := Lib.hid (HN4.out.below hb5); have CQ := Lib.hid (HCW4.out.trans (ChgS.of_below hb5))
              clear hb5 HBU4 HN4 HCW4 HEQ2
              have hz := CQ.out.size
              go_wp2_with fail
              refine (writeString_any w.heap.size w1.heap.size _ (asB bt) _ BQ.out (by rw [byteCells_len, ← size_bs, bs_asB]; omega) hz).mono ?_
              rintro e w7 ⟨rfl, hb7, hbel7, -⟩
              rw [byteCells_str, bs_asB] at hb7
              have hca7 := ChgS.of_at hbel7
              have hfin := HFINI.out w7 (CQ.out.new hca7 (fun i hi h => absurd hi (by omega))) (NQ.out.chg hca7 (fun b hb h => by have := hS b hb; omega)) (by rw [HJ.out]; exact .inr hb7)
              have HFIN := Lib.hid hfin
              clear hb7 hbel7 hca7 hfin BQ NQ CQ HFINI HJ
              go_wp2
              go_roundw
              case rel => exact ⟨k + 1, _, hlt, by go_num, HFIN.out⟩
              case measure => simp [RowKit.intOf]; omega
            · have hj : joinS L ms (ws.take k) out bt s = out ++ [46] ++ bt := by
                unfold joinS
                rw [HRE.out, if_neg (fun h => hrw (by rw [h.2, HTK.out]))]
              have HJ := Lib.hid hj
              have HEQ2 : Hid (Calls Tryz.prog 34 #[.slice A' R.w.length c', .slice (some ad) (k + 1) c] w4 fun e w' => e = .returned (.bool false) ∧ Below w4.heap.size w4 w') := Lib.hid (HEQ.out.mono (by rintro e w' ⟨rfl, h⟩; exact ⟨by rw [decide_eq_false hrw], h⟩))
              clear hre hrw hj HEQ
              go_wp2_with fail
              refine HEQ2.out.mono ?_
              rintro e w5 ⟨rfl, hb5⟩
              have B5 := Lib.hid (isBuilder_chg HBU4.out (ChgS.of_below (S := fun _ => False) hb5) (fun _ _ h => h)); have N5 := Lib.hid (HN4.out.below hb5); have C5 := Lib.hid (HCW4.out.trans (ChgS.of_below hb5))
              clear hb5 HBU4 HN4 HCW4 HEQ2
              have hz0 := C5.out.size
              go_wp2_with fail
              refine (writeByte_any w.heap.size w1.heap.size _ 46 _ B5.out (by rw [byteCells_len]; omega) hz0).mono ?_
              rintro e w6 ⟨rfl, hb6, hbel6, -⟩
              have hb6' : BuilderAtF 70 5 w.heap.size w1.heap.size (.pointer (some ⟨w1.heap.size, 0, none⟩)) (Lib.byteCells (out ++ [46])) w6 := by rw [← byteCells_one]; exact hb6
              have hca6 := ChgS.of_at hbel6
              have BQ : Hid (IsBuilderF 70 5 w.heap.size w1.heap.size (Lib.byteCells (out ++ [46])) w6) := Lib.hid (.inr hb6')
              have NQ := Lib.hid (N5.out.chg hca6 (fun b hb h => by have := hS b hb; omega)); have CQ := Lib.hid (C5.out.new hca6 (fun i hi h => absurd hi (by omega)))
              clear hb6 hb6' hbel6 hca6 B5 N5 C5
              have hz := CQ.out.size
              go_wp2_with fail
              refine (writeString_any w.heap.size w1.heap.size _ (asB bt) _ BQ.out (by rw [byteCells_len, ← size_bs, bs_asB]; rw [List.length_append, List.length_singleton]; omega) hz).mono ?_
              rintro e w7 ⟨rfl, hb7, hbel7, -⟩
              rw [byteCells_str, bs_asB] at hb7
              have hca7 := ChgS.of_at hbel7
              have hfin := HFINI.out w7 (CQ.out.new hca7 (fun i hi h => absurd hi (by omega))) (NQ.out.chg hca7 (fun b hb h => by have := hS b hb; omega)) (by rw [HJ.out]; exact .inr hb7)
              have HFIN := Lib.hid hfin
              clear hb7 hbel7 hca7 hfin BQ NQ CQ HFINI HJ
              go_wp2
              go_roundw
              case rel => exact ⟨k + 1, _, hlt, by go_num, HFIN.out⟩
              case measure => simp [RowKit.intOf]; omega
          · have e1 : (R.e != 0) = true := by rw [bne_iff_ne]; exact hre
            have hj : joinS L ms (ws.take k) out bt s = out ++ [46] ++ bt := by
              unfold joinS
              rw [HRE.out, if_neg (fun h => hre h.1)]
            have HJ := Lib.hid hj
            have B5 := HBU4; have N5 := HN4; have C5 := HCW4
            clear hre hj HEQ HBU4 HN4 HCW4
            have hz0 := C5.out.size
            go_wp2_with fail
            refine (writeByte_any w.heap.size w1.heap.size _ 46 _ B5.out (by rw [byteCells_len]; omega) hz0).mono ?_
            rintro e w6 ⟨rfl, hb6, hbel6, -⟩
            have hb6' : BuilderAtF 70 5 w.heap.size w1.heap.size (.pointer (some ⟨w1.heap.size, 0, none⟩)) (Lib.byteCells (out ++ [46])) w6 := by rw [← byteCells_one]; exact hb6
            have hca6 := ChgS.of_at hbel6
            have BQ : Hid (IsBuilderF 70 5 w.heap.size w1.heap.size (Lib.byteCells (out ++ [46])) w6) := Lib.hid (.inr hb6')
            have NQ := Lib.hid (N5.out.chg hca6 (fun b hb h => by have := hS b hb; omega)); have CQ := Lib.hid (C5.out.new hca6 (fun i hi h => absurd hi (by omega)))
            clear hb6 hb6' hbel6 hca6 B5 N5 C5
            have hz := CQ.out.size
            go_wp2_with fail
            refine (writeString_any w.heap.size w1.heap.size _ (asB bt) _ BQ.out (by rw [byteCells_len, ← size_bs, bs_asB]; rw [List.length_append, List.length_singleton]; omega) hz).mono ?_
            rintro e w7 ⟨rfl, hb7, hbel7, -⟩
            rw [byteCells_str, bs_asB] at hb7
            have hca7 := ChgS.of_at hbel7
            have hfin := HFINI.out w7 (CQ.out.new hca7 (fun i hi h => absurd hi (by omega))) (NQ.out.chg hca7 (fun b hb h => by have := hS b hb; omega)) (by rw [HJ.out]; exact .inr hb7)
            have HFIN := Lib.hid hfin
            clear hb7 hbel7 hca7 hfin BQ NQ CQ HFINI HJ
            go_wp2
            go_roundw
            case rel => exact ⟨k + 1, _, hlt, by go_num, HFIN.out⟩
            case measure => simp [RowKit.intOf]; omega
      · obtain rfl : k = ws.length := by omega
        rw [List.take_length, List.drop_length] at hpk
        have hpo := HPR.out out hpk.symm
        have hst := string_any w.heap.size w1.heap.size out W hbu hsz
        have HST := Lib.hid hst; have HNN := Lib.hid hnn; have HCH := Lib.hid hch; have HPO := Lib.hid hpo
        clear hst hnn hch hpo hpk hbu hlt
        go_wp2_with fail
        refine HST.out.mono ?_
        rintro e w3 ⟨rfl, -, hb3, -⟩
        have hca3 := ChgS.of_at hb3
        have hfin : PrintPost w S g fs L ms N (printR L ms ws) (.returned (.tuple #[.string ⟨out.toArray⟩, .int .i64 0])) w3 := by
          rw [HPO.out]
          exact ⟨rfl, (HNN.out.chg hca3 (fun b hb h => by have := hS b hb; omega)).more (by omega), HCH.out.new hca3 (fun i hi h => absurd hi (by omega))⟩
        have HFIN := Lib.hid hfin
        clear hb3 hca3 hfin HST HNN HCH HPO
        go_wp2
        go_ret2
        exact HFIN.out
  · have e1 : (wordE ws != 0) = true := by rw [bne_iff_ne]; exact hE
    have hfin : PrintPost w S g fs L ms N (printR L ms ws) (.returned (.tuple #[.string ⟨#[]⟩, .int .i64 (wordE ws)])) w1 := by
      unfold printR
      rw [if_neg hE]
      exact ⟨rfl, (H.out.below hb1).more (by omega), .of_below hb1⟩
    have HFIN := Lib.hid hfin
    clear hfin hE hb1
    go_wp2
    go_ret2
    exact HFIN.out
end
section
variable {L : List Nam} {ms : List Mk}
theorem marksR_ok (hm : ∀ m ∈ ms, ok32 m.set) (t : List UInt8) : ∀ (k : Nat) (x : Snd) (n : Nat), ok32 x → ok32 (marksR ms k t x n).1
  | 0, _, _, h => h
  | k + 1, x, n, h => by
    unfold marksR
    cases hq : markAt ms (t.drop n) with
    | none => exact h
    | some m => exact marksR_ok hm t k _ _ (chg_ok h (hm m (markAt_pre hq).1))
theorem unitsK_ok (hL : ∀ t, ok32 (soundOf L t)) (hm : ∀ m ∈ ms, ok32 m.set) : ∀ (f k : Nat) (t : List UInt8), ∀ u ∈ unitsK L ms f k t, ok32 u.x
  | 0, _, _, u, hu => by cases hu
  | f + 1, k, t, u, hu => by
    by_cases ht : t = []
    · subst ht; cases hu
    · cases hr : unitR L ms (t.drop (skipD k t)) with
      | none =>
        rw [unitsK_bad ht hr] at hu
        rcases List.mem_cons.1 hu with rfl | hu
        · exact ⟨Nat.succ_pos _, Nat.succ_pos _⟩
        · cases hu
      | some p =>
        obtain ⟨x, n⟩ := p
        rw [unitsK_cons ht hr] at hu
        rcases List.mem_cons.1 hu with rfl | hu
        · have := marksR_ok hm (t.drop (skipD k t)) 4 _ (longN L (t.drop (skipD k t))) (hL ((t.drop (skipD k t)).take (longN L (t.drop (skipD k t)))))
          rw [(unitR_some hr).2.1] at this
          exact this
        · exact unitsK_ok hL hm f _ _ u hu
theorem readR_w_ok (hL : ∀ t, ok32 (soundOf L t)) (hm : ∀ m ∈ ms, ok32 m.set) (t : List UInt8) : ∀ s ∈ (readR L ms t).w, ok32 s := by
  intro s hs
  rcases readR_cases (L := L) (ms := ms) t with ⟨_, h1⟩ | ⟨pre, u, rest, _, _, h2 | h2⟩
  · rw [h1] at hs
    obtain ⟨u, hu, rfl⟩ := List.mem_map.1 hs
    exact unitsK_ok hL hm _ _ _ u hu
  · rw [h2] at hs; cases hs
  · rw [h2] at hs; cases hs
end
section
variable {w : World} {S : Nat → Prop} {g N : Nat} {fs : List ByteArray} {L : List Nam} {ms : List Mk}
theorem NotN.words (h : NotN w S g fs L ms N) (t : List UInt8) : ∀ s ∈ (readR L ms t).w, ok32 s := by
  obtain ⟨gi, A, c, bm, n, f, -, h2, -, -, -, h5, -⟩ := h
  exact readR_w_ok (soundOf_ok h2.ok) (fun m hm => (h5 m hm).2.1) t
set_option maxRecDepth 20000 in
set_option maxHeartbeats 1000000 in
theorem normal_any (s : ByteArray) (h : NotN w S g fs L ms N) (hS : ∀ b, S b → b < w.heap.size) (hs : s.size ≤ maxLen) (hN : N < 1000000 - 40) :
    Calls Tryz.prog 20 #[wptr g, .string s] w (PrintPost w S g fs L ms N (normalR L ms (bs s))) := by
  have hp := parse_any s ⟨N, h⟩ hs
  have hok := h.words (bs s)
  unfold normalR
  generalize readR L ms (bs s) = R at *
  obtain ⟨V, hV⟩ : ∃ V, (if R.e = 0 then printR L ms R.w else ([], R.e)) = V := ⟨_, rfl⟩
  rw [hV]
  have HP := Lib.hid hp; have H := Lib.hid h; have HOK := Lib.hid hok; have HVV := Lib.hid hV
  clear hp h hok hV
  go_enter Tryz.func20, Tryz.ntmps20
  go_wp2_with fail
  refine HP.out.mono ?_
  rintro e w1 ⟨vw, rfl, ho, hb⟩
  obtain ⟨A, c, rfl, hc1, hc2⟩ := ownsRow_form ho
  have hsz := hb.size
  by_cases hE : R.e = 0
  · have e1 : (R.e != 0) = false := by rw [hE]; rfl
    have hpr := print_any A R.w.length c R.w (fun b => w.heap.size ≤ b) (H.out.below hb) (fun b hb' => by have := hS b hb'; omega) (RowS.of_own ho (fun b hb' => (ho.lt b hb').1)) (fun b h1 h2 => by have := hS b h2; omega) hc1 hc2 HOK.out hN
    have hv := HVV.out
    rw [if_pos hE] at hv
    have HPR := Lib.hid hpr; have HB := Lib.hid hb; have HV2 := Lib.hid hv
    clear hpr ho hb hE hv
    go_wp2_with fail
    refine HPR.out.mono ?_
    rintro e w2 ⟨rfl, hn2, hc2⟩
    have hfin : PrintPost w S g fs L ms N V (.returned (.tuple #[.string (asB (printR L ms R.w).1), .int .i64 (printR L ms R.w).2])) w2 := by
      rw [← HV2.out]
      exact ⟨rfl, hn2, (ChgS.of_below (S := S) HB.out).trans hc2⟩
    have HFIN := Lib.hid hfin
    clear hfin hn2 hc2 HB
    go_wp2
    go_ret2
    exact HFIN.out
  · have e1 : (R.e != 0) = true := by rw [bne_iff_ne]; exact hE
    have hv := HVV.out
    rw [if_neg hE] at hv
    have hfin : PrintPost w S g fs L ms N V (.returned (.tuple #[.string ⟨#[]⟩, .int .i64 R.e])) w1 := by
      rw [← hv]
      exact ⟨rfl, (H.out.below hb).more (by omega), .of_below hb⟩
    have HFIN := Lib.hid hfin
    clear hfin ho hb hE hv
    go_wp2
    go_ret2
    exact HFIN.out
end
end Go.Proofs.YtohggdfplmlinaaGreatDoor
