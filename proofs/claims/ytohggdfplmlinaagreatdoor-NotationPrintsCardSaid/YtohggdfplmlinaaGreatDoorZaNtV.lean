/-
  layer 4: Sound of a notation: the shortest text of a sound. Conditions: a notation in memory, a sound of 32 bits.
-/
import Derived.Test.YtohggdfplmlinaaGreatDoorZaaj
namespace Go.Proofs.YtohggdfplmlinaaGreatDoor
open Go.RowKit Go.Lib

section
variable {L : List Nam} {ms : List Mk}
/-- The best text behind some symbols, behind a symbol and some marks, behind some marks more. -/
def best0 (L : List Nam) (ms : List Mk) (s : Snd) (i : Nat) : List UInt8 := ((L.take i).flatMap fun x => cands1 ms (bs x.1)).foldl (tryS L ms s) []
def best1 (L : List Nam) (ms : List Mk) (s : Snd) (b : List UInt8) (sym : List UInt8) (j : Nat) : List UInt8 := ((ms.take j).flatMap fun a => (sym ++ bs a.text) :: ms.map fun c => sym ++ bs a.text ++ bs c.text).foldl (tryS L ms s) b
def best2 (L : List Nam) (ms : List Mk) (s : Snd) (b : List UInt8) (t : List UInt8) (k : Nat) : List UInt8 := ((ms.take k).map fun c => t ++ bs c.text).foldl (tryS L ms s) b
theorem best2_next {s : Snd} {b t : List UInt8} {k : Nat} (hk : k < ms.length) : best2 L ms s b t (k + 1) = tryS L ms s (best2 L ms s b t k) (t ++ bs ms[k].text) := by
  unfold best2
  rw [List.take_succ_eq_append_getElem hk, List.map_append, List.foldl_append]; rfl
theorem best1_next {s : Snd} {b sym : List UInt8} {j : Nat} (hj : j < ms.length) : best1 L ms s b sym (j + 1) = best2 L ms s (tryS L ms s (best1 L ms s b sym j) (sym ++ bs ms[j].text)) (sym ++ bs ms[j].text) ms.length := by
  unfold best1 best2
  rw [List.take_succ_eq_append_getElem hj, List.flatMap_append, List.foldl_append, List.take_length, List.flatMap_singleton, List.foldl_cons]
theorem best0_next {s : Snd} {i : Nat} (hi : i < L.length) : best0 L ms s (i + 1) = best1 L ms s (tryS L ms s (best0 L ms s i) (bs L[i].1)) (bs L[i].1) ms.length := by
  unfold best0 best1
  rw [List.take_succ_eq_append_getElem hi, List.flatMap_append, List.foldl_append, List.take_length, List.flatMap_singleton]
  unfold cands1
  rw [List.foldl_cons]
theorem best0_all {s : Snd} : best0 L ms s L.length = bestS L ms s := by
  unfold best0 bestS cands
  rw [List.take_length]
theorem tryS_len {s : Snd} {b t : List UInt8} {n : Nat} (h1 : b.length ≤ n) (h2 : t.length ≤ n) : (tryS L ms s b t).length ≤ n := by
  unfold tryS
  split
  · exact h2
  · exact h1
end
set_option maxRecDepth 20000 in
theorem step_putMapKS {w : World} {ops : Array Oper} {o : Oper} {a : Act} {K : Act → World → Prop} {Q : Exit → Act → World → Prop} {E : Prop}
    (hg : o.guard = none) (m x v : Operand) (hop : o.op = Op.mapUpdate 77 m x v) (b n : Nat) (f : Snd → Option ByteArray) (hm : a.eval m = .map (some b)) (h : MapKS w b n f) (hn : n < maxLen)
    (s : Snd) (hs : ok32 s) (i : ByteArray) (hi : i.size ≤ maxLen) (hx : a.eval x = sndV s) (hv : a.eval v = .string i)
    (hK : ∀ w', MapKS w' b (n + 1) (fun t => if t = s then some i else f t) → w.grownBy w' (some b) → K (a.put o.dst undef) w') :
    if Region.wanted o (yielded ops a.tmps) = true then Oper.wp Tryz.prog o a w K Q else E := by
  rw [if_pos (by simp [Region.wanted, hg])]
  obtain ⟨D, h1, h2, h3⟩ := h
  obtain ⟨w', hrun, r1, r2⟩ := h1.update keySnd Tryz.underlying77 hn (keyS_key hs) (plainElem_string (H := Unit) Tryz.underlying9 hi)
  unfold Oper.wp
  simp [execOp, hop, hm, hx, hv, hrun, Result.andThen]
  refine hK w' ⟨_, r1, h2.put _ _, fun t ht => ?_⟩ r2
  have hlit : Go.WideAt.IsKeyLit (klS s) := by first | trivial | rfl | (unfold Go.WideAt.IsKeyLit; trivial)
  by_cases e : t = s
  · subst e
    simp only [↓reduceIte]
    exact ⟨Go.Maps.has_put_same h2 hlit _, fun v hv => by injection hv with hv; subst hv; exact Go.Maps.atKey_put_same h2 hlit _ _⟩
  · simp only [if_neg e]
    have hne : klS t ≠ klS s := fun h => e (klS_inj ht hs h)
    rw [Go.Maps.has_put_other hne, Go.Maps.atKey_put_other hne]
    exact h3 t ht
theorem bs_append (a b : ByteArray) : bs (a ++ b) = bs a ++ bs b := by
  unfold bs
  rw [ByteArray.data_append, Array.toList_append]
theorem MapKS.ne_' {w : World} {b g n : Nat} {f : Snd → Option ByteArray} {t : TypeId} {cs : Array Value} (h : MapKS w b n f) (hb : Blk w g t cs) : g ≠ b := by
  obtain ⟨es, clock, h⟩ := h.isMap
  exact map_ne h hb
theorem notK_len {n : Nat} {ms : List Mk} (h : notK n ms = 0) : ms.length ≤ 32 := by
  unfold notK at h
  split at h
  · cases h
  · omega
theorem sym_size {x : ByteArray} (h : okSym x = true) : x.size ≤ 4 := by
  unfold okSym consC at h
  simp only [Bool.and_eq_true, decide_eq_true_eq] at h
  exact h.1.2
theorem mark_size {n : Nat} {ms : List Mk} (h : notK n ms = 0) : ∀ m ∈ ms, m.text.size ≤ 3 := fun m hm => by
  unfold notK at h
  split at h
  · cases h
  · have := notE_ok ms [] h m hm
    unfold okMark consC at this
    simp only [Bool.and_eq_true, decide_eq_true_eq] at this
    exact this.1.2
/-- What Sound does: the best text; the notation has one text more. -/
def SoundPost (w : World) (S : Nat → Prop) (g : Nat) (fs : List ByteArray) (L : List Nam) (ms : List Mk) (N : Nat) (s : Snd) (e : Ending) (w' : World) : Prop :=
  e = .returned (.tuple #[.string (asB (bestS L ms s)), .bool (decide (bestS L ms s ≠ []))]) ∧ NotN w' S g fs L ms (N + 1) ∧ ChgS S w w'
section
variable {w : World} {S : Nat → Prop} {g N : Nat} {fs : List ByteArray} {L : List Nam} {ms : List Mk}
theorem NotN.more {M : Nat} (h : NotN w S g fs L ms N) (hm : N ≤ M) : NotN w S g fs L ms M := by
  obtain ⟨gi, A, c, bm, n, f, h1, h2, h3, h4, h5, h6⟩ := h
  exact ⟨gi, A, c, bm, n, f, h1, h2, h3, h4, Nat.le_trans h5 hm, h6⟩
set_option linter.unusedSimpArgs false in
set_option maxRecDepth 20000 in
set_option maxHeartbeats 4000000 in
theorem sound_any (s : Snd) (h : NotN w S g fs L ms N) (hS : ∀ b, S b → b < w.heap.size) (hs : ok32 s) (hN : N < 1000000) :
    Calls Tryz.prog 12 #[wptr g, sndV s] w (SoundPost w S g fs L ms N s) := by
  have hNot := h
  obtain ⟨gi, A, c, bm, n, f, ⟨h1, hSg⟩, hI, ⟨hrow, hrS⟩, ⟨hmap, hSb, hf⟩, hn, hmk, hk0⟩ := h
  have hgl := h1.lt
  have hbl := hmap.lt
  obtain ⟨W0, hW0⟩ : ∃ W0, (w.alloc (.cells #[wptr g] 32)).alloc (.cells #[.int .u32 s.1, .int .u32 s.2] 30) = W0 := ⟨_, rfl⟩
  have hz : W0.heap.size = w.heap.size + 2 := by rw [← hW0]; simp
  have hb0 : Below w.heap.size w W0 := by rw [← hW0]; exact ((Below.refl _ w).alloc (Nat.le_refl _) _).alloc (by simp) _
  have k2 : Blk W0 w.heap.size 32 #[wptr g] := by rw [← hW0]; exact (Blk.new w _ _).alloc _
  have k3 : Blk W0 (w.heap.size + 1) 30 #[.int .u32 s.1, .int .u32 s.2] := by
    rw [← hW0]
    have := Blk.new (w.alloc (.cells #[wptr g] 32)) 30 #[.int .u32 s.1, .int .u32 s.2]
    rwa [World.size_alloc] at this
  have hN0 := hNot.below hb0
  have g1 := (h1.below hb0 hgl).cell 1; have g0 := (h1.below hb0 hgl).cell 0
  have hv := nvalid_any (⟨N, hN0⟩ : NotM W0 S g fs L ms)
  have hmap0 := hmap.chgS (S := fun _ => False) (.of_below hb0) (fun h => h)
  have g2 := (h1.below hb0 hgl).cell 2
  have c2 := k2.cell 0; have c30 := k3.cell 0; have c31 := k3.cell 1
  simp only [List.getElem?_toArray, List.getElem?_cons_zero, List.getElem?_cons_succ] at g0 g1 g2 c2 c30 c31
  have HROW := Lib.hid hrow; have HH1 := Lib.hid h1
  have HV := Lib.hid hv; have HN0 := Lib.hid hN0; have HM0 := Lib.hid hmap0; have HNot := Lib.hid hNot; have HB0 := Lib.hid hb0; have K2 := Lib.hid k2; have K3 := Lib.hid k3; have HI := Lib.hid hI
  clear hv hN0 hmap0 hNot hb0 k2 k3 hrow hmap hI h1
  go_enter Tryz.func12, Tryz.ntmps12
  go_wp2_with (rw [hW0])
  refine HV.out.mono ?_
  rintro e w1 ⟨rfl, rfl⟩
  have hbd : Below W0.heap.size W0 W0.drew := (Below.refl _ _).drew
  have hmd := HM0.out.chgS (S := fun _ => False) (.of_below hbd) (fun h => h)
  have hlook := hmd.look s hs
  cases hfs : f s with
  | some t =>
    rw [hfs] at hlook
    simp only [Option.getD_some, Option.isSome_some] at hlook
    have hbt := hf s t hfs
    have hfin : SoundPost w S g fs L ms N s (.returned (.tuple #[.string t, .bool (!t.toList.isEmpty)])) W0.drew := by
      refine ⟨?_, (HN0.out.below hbd).more (Nat.le_succ _), .of_below HB0.out.drew⟩
      rw [← hbt, show asB (bs t) = t from str_eq rfl, ByteArray.toList_eq]
      show _ = Ending.returned (.tuple #[.string t, .bool (decide (t.data.toList ≠ []))])
      cases t.data.toList <;> rfl
    have HFIN := Lib.hid hfin
    clear hfin hbt hfs hW0 hbd hmd hf
    go_wp2
    go_region
    go_wp2
    go_ret2
    exact HFIN.out
  | none =>
    rw [hfs] at hlook
    simp only [Option.getD_none, Option.isSome_none] at hlook
    have hHW : (W0.alloc (.cells #[.string ⟨#[]⟩] 9)).drew.heap.size = w.heap.size + 3 := by rw [show ∀ W : World, W.drew.heap.size = W.heap.size from fun _ => rfl, World.size_alloc, hz]
    have k8 : Blk (W0.alloc (.cells #[.string ⟨#[]⟩] 9)).drew (w.heap.size + 2) 9 #[.string (asB [])] := by
      have := Blk.new W0 9 #[.string ⟨#[]⟩]
      rw [hz] at this
      exact this.drew
    have hb1 : Below W0.heap.size W0 (W0.alloc (.cells #[.string ⟨#[]⟩] 9)).drew := ((Below.refl _ _).alloc (Nat.le_refl _) _).drew
    have hgz : g < W0.heap.size := by omega
    have g0' : (W0.alloc (.cells #[.string ⟨#[]⟩] 9)).cell? ⟨g, 0, none⟩ = some (wptr gi) := (World.cell?_alloc_lt _ _ _ hgz).trans g0
    have c2' : (W0.alloc (.cells #[.string ⟨#[]⟩] 9)).cell? ⟨w.heap.size, 0, none⟩ = some (wptr g) := (World.cell?_alloc_lt _ _ _ (by show w.heap.size < W0.heap.size; omega)).trans c2
    have hsd := fun W (hW : Below W0.heap.size W0 W) => sounds_any ((HI.out.below HB0.out).below hW)
    have HSD := Lib.hid hsd; have HHW := Lib.hid hHW; have K8 := Lib.hid k8; have HB1 := Lib.hid hb1
    clear hW0 hbd hmd hHW k8 hb1 hsd
    go_wp2
    go_region
    go_wp2_with fail
    refine (HSD.out _ HB1.out).mono ?_
    rintro e w2 ⟨v, rfl, ho, hb2⟩
    obtain ⟨A4, c4, rfl, hc4, hc4'⟩ := ownsRow_form ho
    rw [HHW.out] at ho
    have K8' := Lib.hid (K8.out.below hb2 K8.out.lt)
    have hb02 := HB1.out.trans (hb2.mono HB1.out.size)
    have hz2 : w.heap.size + 3 ≤ w2.heap.size := by have := hb2.size; rw [HHW.out] at this; exact this
    have hok := HI.out.ok
    have KEEP : ∀ W', ChgS (fun b => b = w.heap.size + 2) w2 W' → Blk W' w.heap.size 32 #[wptr g] ∧ Blk W' (w.heap.size + 1) 30 #[.int .u32 s.1, .int .u32 s.2] ∧ W'.ownsRow (w.heap.size + 3) 60 3 (.slice A4 L.length c4) L.length (L.flatMap namC) ∧
        NotN W' S g fs L ms N ∧ Blk W' g 79 #[wptr gi, .slice A ms.length c, .map (some bm)] ∧ Reads W' W'.heap.size 4 A ms.length (ms.flatMap markC) ∧ MapKS W' bm n f ∧ InvM W' (fun b => S b ∧ b ≠ bm) gi fs L ∧ W'.ownsRow 0 83 4 (.slice A ms.length c) ms.length (ms.flatMap markC) := fun W' hW' => by
      have hl2 := K2.out.lt; have hl3 := K3.out.lt
      have hg2 := (HH1.out.below HB0.out hgl).below hb02 (by omega)
      have hr2 := own_chgS (S := fun _ => False) (own_chgS (S := fun _ => False) HROW.out (.of_below HB0.out) (fun _ _ h => h)) (.of_below hb02) (fun _ _ h => h)
      have hro := own_chgS hr2 hW' (fun k hk e => by have := hS k (hrS k hk); omega)
      have hm2 := (HM0.out.chgS (S := fun _ => False) (.of_below hb02) (fun h => h)).chgS hW' (fun e => by omega)
      have hi2 := (((HI.out.below HB0.out).below hb02).chg hW' (fun b hb e => by have := hS b hb.1; omega))
      exact ⟨(K2.out.below hb02 hl2).chgS hW' (by omega), (K3.out.below hb02 hl3).chgS hW' (by omega), own_chgS ho hW' (fun k hk e => by have := (ho.lt k hk).1; omega), (HN0.out.below hb02).chg hW' (fun b hb e => by have := hS b hb; omega), hg2.chgS hW' (by omega), Reads.of_own hro, hm2, hi2, hro⟩
    have HMS := Lib.hid (mark_size hk0)
    have hm32 : ms.length ≤ 32 := notK_len hk0
    have hl256 : L.length ≤ 256 := hok.l256
    have HKEEP := Lib.hid KEEP; have HOK := Lib.hid hok
    have hfb2 : Below w.heap.size w w2 := HB0.out.trans (hb02.mono (by omega))
    have HF2 := Lib.hid hfb2
    clear ho hb2 hb02 KEEP hok hlook hfb2 g0' c2' g0 g1 g2 c2 c30 c31
    go_wp2
    go_loopw [39] (fun i wr => ∃ k : Nat, k ≤ L.length ∧ i = .int .i64 k ∧ Blk wr (w.heap.size + 2) 9 #[.string (asB (best0 L ms s k))] ∧ (best0 L ms s k).length ≤ 10 ∧ ChgS (fun b => b = w.heap.size + 2) w2 wr) (fun i _ => L.length - (RowKit.intOf i).toNat)
    case atStart => exact ⟨0, by omega, rfl, K8'.out, Nat.zero_le _, .refl _ _⟩
    case round =>
      obtain ⟨k, hk, rfl, hb8, hbl10, hch⟩ := hrel
      obtain ⟨W1, rfl⟩ : ∃ W, W = wr := ⟨_, rfl⟩
      by_cases hlt : k < L.length
      · have hkI : (k : Int) < (L.length : Int) := by omega
        obtain ⟨q2, q3, qr, qn, qg, qm, -⟩ := HKEEP.out _ hch
        obtain ⟨ad, rfl, had, e0, e1, e2⟩ := nam_cells (Reads.of_own qr) hlt
        have hsl := sym_size (HOK.out.sym _ (List.getElem_mem hlt)).1
        have hnext := best0_next (ms := ms) (s := s) hlt
        generalize L[k] = nm at *
        obtain ⟨sym, z1, z2⟩ := nm
        simp only [] at hnext hsl e0 e1 e2
        have hsl' : (bs sym).length ≤ 10 := by rw [size_bs]; omega
        obtain ⟨b0, hb0e⟩ : ∃ b, best0 L ms s k = b := ⟨_, rfl⟩
        rw [hb0e] at hnext hb8 hbl10
        have hchA := hch.alloc (.cells #[.string sym, .int .u32 z1, .int .u32 z2] 60)
        have k8a := hb8.alloc (.cells #[.string sym, .int .u32 z1, .int .u32 z2] 60)
        have kx := Blk.new W1 60 #[.string sym, .int .u32 z1, .int .u32 z2]
        have hxb : w.heap.size + 2 < W1.heap.size := hb8.lt
        obtain ⟨bx, hbx⟩ : ∃ b, W1.heap.size = b := ⟨_, rfl⟩
        rw [hbx] at kx hxb
        have hbw1 : W1.heap.size ≤ bx := Nat.le_of_eq hbx
        obtain ⟨r2, r3, -, rn, -, -, -⟩ := HKEEP.out _ hchA
        have htry := try_any sym b0 s (w.heap.size + 2) w.heap.size (w.heap.size + 1) ⟨N, rn⟩ k8a r2 r3 (by unfold maxLen; omega) (by unfold maxLen; omega)
        have hl1 : (tryS L ms s b0 (bs sym)).length ≤ 10 := tryS_len hbl10 hsl'
        have HT := Lib.hid htry; have HCHA := Lib.hid hchA; have HKX := Lib.hid kx; have HNX := Lib.hid hnext; have HL1 := Lib.hid hl1
        clear q2 q3 qr qn qg qm htry hchA kx k8a r2 r3 rn hch hb8 hnext hb0e hbl10 hl1
        go_wp2_with fail
        refine HT.out.mono ?_
        rintro e w3 ⟨rfl, hb8, hch'⟩
        have hch3 := HCHA.out.trans hch'
        have hx3 := HKX.out.chgS hch' (by omega)
        obtain ⟨q2, -, -, -, qg, -, -⟩ := HKEEP.out _ hch3
        have c2 := q2.cell 0; have g1 := qg.cell 1
        simp only [List.getElem?_toArray, List.getElem?_cons_zero, List.getElem?_cons_succ] at c2 g1
        generalize tryS L ms s b0 (bs sym) = b1 at *
        have HB8 := Lib.hid hb8; have HC3 := Lib.hid hch3; have HX3 := Lib.hid hx3
        clear hb8 hch3 hx3 hch' q2 qg HT HCHA HKX e0 e1 e2
        go_wp2
        go_loopw [52] (fun i wr => ∃ m : Nat, m ≤ ms.length ∧ i = .int .i64 m ∧ Blk wr (w.heap.size + 2) 9 #[.string (asB (best1 L ms s b1 (bs sym) m))] ∧ (best1 L ms s b1 (bs sym) m).length ≤ 10 ∧ ChgS (fun b => b = w.heap.size + 2) w2 wr ∧ Blk wr bx 60 #[.string sym, .int .u32 z1, .int .u32 z2]) (fun i _ => ms.length - (RowKit.intOf i).toNat)
        case atStart => exact ⟨0, by omega, rfl, HB8.out, HL1.out, HC3.out, HX3.out⟩
        case round =>
          obtain ⟨m, hm, rfl, hb8, hbl10, hch, hx⟩ := hrel
          obtain ⟨W3, rfl⟩ : ∃ W, W = wr := ⟨_, rfl⟩
          clear c2 g1 HB8 HC3 HX3
          by_cases hmlt : m < ms.length
          · have hmI : (m : Int) < (ms.length : Int) := by omega
            obtain ⟨q2, q3, qr, qn, qg, qm, -⟩ := HKEEP.out _ hch
            obtain ⟨ad, rfl, had, e0, e1, e2, e3⟩ := mark_cells qm hmlt
            have hal := HMS.out _ (List.getElem_mem hmlt)
            have hnext2 := best1_next (L := L) (s := s) (b := b1) (sym := bs sym) hmlt
            generalize ms[m] = y at *
            obtain ⟨text, clear_, set1, set2⟩ := y
            simp only [] at hnext2 hal e0 e1 e2 e3
            have x0 := hx.cell 0; have x1 := hx.cell 1
            simp only [List.getElem?_toArray, List.getElem?_cons_zero, List.getElem?_cons_succ] at x0 x1
            have hbs : bs sym ++ bs text = bs (sym ++ text) := (bs_append _ _).symm
            have hsz2 : (sym ++ text).size ≤ 7 := by rw [ByteArray.size_append]; omega
            have hsl2 : (bs (sym ++ text)).length ≤ 10 := by rw [size_bs]; omega
            rw [hbs] at hnext2
            obtain ⟨t2, ht2⟩ : ∃ t, sym ++ text = t := ⟨_, rfl⟩
            rw [ht2] at hnext2 hsz2 hsl2
            obtain ⟨b2, hb2e⟩ : ∃ b, best1 L ms s b1 (bs sym) m = b := ⟨_, rfl⟩
            rw [hb2e] at hnext2 hb8 hbl10
            have hchA := hch.alloc (.cells #[.string text, .int .u32 clear_, .int .u32 set1, .int .u32 set2] 83)
            have k8a := hb8.alloc (.cells #[.string text, .int .u32 clear_, .int .u32 set1, .int .u32 set2] 83)
            have kx := hx.alloc (.cells #[.string text, .int .u32 clear_, .int .u32 set1, .int .u32 set2] 83)
            have ky := Blk.new W3 83 #[.string text, .int .u32 clear_, .int .u32 set1, .int .u32 set2]
            have hyb : w.heap.size + 2 < W3.heap.size := hb8.lt
            have hxy : bx < W3.heap.size := hx.lt
            have x0a : (W3.alloc (.cells #[.string text, .int .u32 clear_, .int .u32 set1, .int .u32 set2] 83)).cell? ⟨bx, 0, none⟩ = some (.string sym) := (World.cell?_alloc_lt _ _ _ hxy).trans x0
            obtain ⟨by_, hby⟩ : ∃ b, W3.heap.size = b := ⟨_, rfl⟩
            rw [hby] at ky hyb hxy
            obtain ⟨r2, r3, -, rn, -, -, -⟩ := HKEEP.out _ hchA
            have htry := try_any t2 b2 s (w.heap.size + 2) w.heap.size (w.heap.size + 1) ⟨N, rn⟩ k8a r2 r3 (by unfold maxLen; omega) (by unfold maxLen; omega)
            have hl1 : (tryS L ms s b2 (bs t2)).length ≤ 10 := tryS_len hbl10 hsl2
            have HT := Lib.hid htry; have HCHA := Lib.hid hchA; have HKX := Lib.hid kx; have HKY := Lib.hid ky; have HNX2 := Lib.hid hnext2; have HL2 := Lib.hid hl1
            clear q2 q3 qr qn qg qm htry hchA kx ky k8a r2 r3 rn hch hb8 hnext2 hb2e hbl10 hl1 hx hbs
            go_wp2_with fail
            refine HT.out.mono ?_
            rintro e w4 ⟨rfl, hb8, hch'⟩
            have hch4 := HCHA.out.trans hch'
            have hx4 := HKX.out.chgS hch' (by omega)
            have hy4 := HKY.out.chgS hch' (by omega)
            obtain ⟨q2, -, -, -, qg, -, -⟩ := HKEEP.out _ hch4
            have c2 := q2.cell 0; have g1 := qg.cell 1
            simp only [List.getElem?_toArray, List.getElem?_cons_zero, List.getElem?_cons_succ] at c2 g1
            generalize tryS L ms s b2 (bs t2) = b3 at *
            have HB8 := Lib.hid hb8; have HC4 := Lib.hid hch4; have HX4 := Lib.hid hx4; have HY4 := Lib.hid hy4
            clear hb8 hch4 hx4 hy4 hch' q2 qg HT HCHA HKX HKY e0 e1 e2 e3 x0 x1 x0a
            go_wp2
            go_loopw [68] (fun i wr => ∃ l : Nat, l ≤ ms.length ∧ i = .int .i64 l ∧ Blk wr (w.heap.size + 2) 9 #[.string (asB (best2 L ms s b3 (bs t2) l))] ∧ (best2 L ms s b3 (bs t2) l).length ≤ 10 ∧ ChgS (fun b => b = w.heap.size + 2) w2 wr ∧ Blk wr bx 60 #[.string sym, .int .u32 z1, .int .u32 z2] ∧ Blk wr by_ 83 #[.string text, .int .u32 clear_, .int .u32 set1, .int .u32 set2]) (fun i _ => ms.length - (RowKit.intOf i).toNat)
            case atStart => exact ⟨0, by omega, rfl, HB8.out, HL2.out, HC4.out, HX4.out, HY4.out⟩
            case round =>
              obtain ⟨l, hl, rfl, hb8, hbl10, hch, hx, hy⟩ := hrel
              obtain ⟨W5, rfl⟩ : ∃ W, W = wr := ⟨_, rfl⟩
              clear c2 g1 HB8 HC4 HX4 HY4
              by_cases hllt : l < ms.length
              · have hlI : (l : Int) < (ms.length : Int) := by omega
                obtain ⟨q2, q3, qr, qn, qg, qm, -⟩ := HKEEP.out _ hch
                obtain ⟨ad3, hA3, had3, e0, e1, e2, e3⟩ := mark_cells qm hllt
                have hA3' := Option.some.inj hA3
                subst hA3'
                clear hA3
                have hal3 := HMS.out _ (List.getElem_mem hllt)
                have hnext3 := best2_next (L := L) (s := s) (b := b3) (t := bs t2) hllt
                generalize ms[l] = y3 at *
                obtain ⟨text3, clear3, set31, set32⟩ := y3
                simp only [] at hnext3 hal3 e0 e1 e2 e3
                have x0 := hx.cell 0; have y0 := hy.cell 0
                simp only [List.getElem?_toArray, List.getElem?_cons_zero, List.getElem?_cons_succ] at x0 y0
                have hbs : bs t2 ++ bs text3 = bs (t2 ++ text3) := (bs_append _ _).symm
                have hsz3 : (t2 ++ text3).size ≤ 10 := by rw [ByteArray.size_append]; omega
                have hsl3 : (bs (t2 ++ text3)).length ≤ 10 := by rw [size_bs]; omega
                rw [hbs] at hnext3
                obtain ⟨t3, ht3⟩ : ∃ t, t2 ++ text3 = t := ⟨_, rfl⟩
                rw [ht3] at hnext3 hsz3 hsl3
                obtain ⟨b4, hb4e⟩ : ∃ b, best2 L ms s b3 (bs t2) l = b := ⟨_, rfl⟩
                rw [hb4e] at hnext3 hb8 hbl10
                have hchA := hch.alloc (.cells #[.string text3, .int .u32 clear3, .int .u32 set31, .int .u32 set32] 83)
                have k8a := hb8.alloc (.cells #[.string text3, .int .u32 clear3, .int .u32 set31, .int .u32 set32] 83)
                have kx := hx.alloc (.cells #[.string text3, .int .u32 clear3, .int .u32 set31, .int .u32 set32] 83)
                have ky := hy.alloc (.cells #[.string text3, .int .u32 clear3, .int .u32 set31, .int .u32 set32] 83)
                have hxz : bx < W5.heap.size := hx.lt
                have hyz : by_ < W5.heap.size := hy.lt
                have x0a : (W5.alloc (.cells #[.string text3, .int .u32 clear3, .int .u32 set31, .int .u32 set32] 83)).cell? ⟨bx, 0, none⟩ = some (.string sym) := (World.cell?_alloc_lt _ _ _ hxz).trans x0
                have y0a : (W5.alloc (.cells #[.string text3, .int .u32 clear3, .int .u32 set31, .int .u32 set32] 83)).cell? ⟨by_, 0, none⟩ = some (.string text) := (World.cell?_alloc_lt _ _ _ hyz).trans y0
                obtain ⟨r2, r3, -, rn, -, -, -⟩ := HKEEP.out _ hchA
                have htry := try_any t3 b4 s (w.heap.size + 2) w.heap.size (w.heap.size + 1) ⟨N, rn⟩ k8a r2 r3 (by unfold maxLen; omega) (by unfold maxLen; omega)
                have hl1 : (tryS L ms s b4 (bs t3)).length ≤ 10 := tryS_len hbl10 hsl3
                have HT := Lib.hid htry; have HCHA := Lib.hid hchA; have HKX := Lib.hid kx; have HKY := Lib.hid ky; have HNX3 := Lib.hid hnext3; have HL3 := Lib.hid hl1
                clear q2 q3 qr qn qg qm htry hchA kx ky k8a r2 r3 rn hch hb8 hnext3 hb4e hbl10 hl1 hx hy hbs
                go_wp2_with fail
                refine HT.out.mono ?_
                rintro e w6 ⟨rfl, hb8, hch'⟩
                have hch6 := HCHA.out.trans hch'
                have hx6 := HKX.out.chgS hch' (by omega)
                have hy6 := HKY.out.chgS hch' (by omega)
                have HB8 := Lib.hid hb8; have HC6 := Lib.hid hch6; have HX6 := Lib.hid hx6; have HY6 := Lib.hid hy6
                clear hb8 hch6 hx6 hy6 hch' HT HCHA HKX HKY e0 e1 e2 e3 x0 y0 x0a y0a
                go_wp2
                go_roundw
                case rel => exact ⟨l + 1, by omega, by go_num, by rw [HNX3.out]; exact HB8.out, by rw [HNX3.out]; exact HL3.out, HC6.out, HX6.out, HY6.out⟩
                case measure => simp [RowKit.intOf]; omega
              · obtain rfl : l = ms.length := by omega
                rw [← HNX2.out] at hb8 hbl10
                have HB8 := Lib.hid hb8; have HC6 := Lib.hid hch; have HX6 := Lib.hid hx; have HL6 := Lib.hid hbl10
                clear hb8 hch hx hy hbl10
                go_wp2
                go_roundw
                case rel => exact ⟨m + 1, by omega, by go_num, HB8.out, HL6.out, HC6.out, HX6.out⟩
                case measure => simp [RowKit.intOf]; omega
          · obtain rfl : m = ms.length := by omega
            rw [← HNX.out] at hb8 hbl10
            have HB8 := Lib.hid hb8; have HC6 := Lib.hid hch; have HL6 := Lib.hid hbl10
            clear hb8 hch hx hbl10
            go_wp2
            go_roundw
            case rel => exact ⟨k + 1, by omega, by go_num, HB8.out, HL6.out, HC6.out⟩
            case measure => simp [RowKit.intOf]; omega
      · obtain rfl : k = L.length := by omega
        rw [best0_all] at hb8 hbl10
        have hsz : (asB (bestS L ms s)).size ≤ maxLen := by
          rw [← size_bs, bs_asB]; unfold maxLen; omega
        have hcd := hch.drewN 1
        obtain ⟨q2, q3, -, -, qg, -, qm, qi, qw⟩ := HKEEP.out _ hcd
        have k8 : Blk W1.drew (w.heap.size + 2) 9 #[.string (asB (bestS L ms s))] := hb8
        have c2 := q2.cell 0; have c30 := q3.cell 0; have c31 := q3.cell 1; have g2 := qg.cell 2; have c8 := k8.cell 0
        simp only [List.getElem?_toArray, List.getElem?_cons_zero, List.getElem?_cons_succ] at c2 c30 c31 g2 c8
        change W1.drew.cell? _ = _ at c2 c30 c31 g2
        have hbs := bs_asB (bestS L ms s)
        obtain ⟨R, hR⟩ : ∃ R, asB (bestS L ms s) = R := ⟨_, rfl⟩
        rw [hR] at hsz c8 k8
        have hfin : ∀ W', MapKS W' bm (n + 1) (fun t => if t = s then some R else f t) → W1.drew.grownBy W' (some bm) → SoundPost w S g fs L ms N s (.returned (.tuple #[.string R, .bool (!R.toList.isEmpty)])) W'.drew ∧ (W'.cell? ⟨w.heap.size, 0, none⟩ = some (wptr g) ∧ W'.cell? ⟨g, 2, none⟩ = some (.map (some bm)) ∧ W'.cell? ⟨w.heap.size + 1, 0, none⟩ = some (.int .u32 s.1) ∧ W'.cell? ⟨w.heap.size + 1, 1, none⟩ = some (.int .u32 s.2) ∧ W'.cell? ⟨w.heap.size + 2, 0, none⟩ = some (.string R)) := fun W' hm' hgr => by
          have hcg : ChgS (fun b => b = bm) W1.drew W' := (ChgS.refl _ _).grown hgr (fun k e => by injection e with e; exact .inl e.symm)
          have n2 := qm.ne_' q2; have n3 := qm.ne_' q3; have n8 := qm.ne_' k8; have ng := qm.ne_' qg
          have a2 := (q2.chgS hcg n2).cell 0; have a30 := (q3.chgS hcg n3).cell 0; have a31 := (q3.chgS hcg n3).cell 1; have a8 := (k8.chgS hcg n8).cell 0; have ag := (qg.chgS hcg ng).cell 2
          refine ⟨⟨?_, ?_, ?_⟩, a2, ag, a30, a31, a8⟩
          · rw [← hR]
            show _ = Ending.returned (.tuple #[.string (asB (bestS L ms s)), .bool (decide (bestS L ms s ≠ []))])
            rw [ByteArray.toList_eq]
            show Ending.returned (.tuple #[.string (asB (bestS L ms s)), .bool (!(bestS L ms s).isEmpty)]) = _
            cases bestS L ms s <;> rfl
          · have hbd : Below W'.heap.size W' W'.drew := (Below.refl _ _).drew
            have : NotN W' S g fs L ms (N + 1) := ⟨gi, A, c, bm, n + 1, _, ⟨qg.chgS hcg ng, hSg⟩, qi.chg hcg (fun b hb e => hb.2 e), ⟨own_chgS qw hcg (fun k hk e => by
                obtain ⟨es, clock, h⟩ := qm.isMap
                exact map_own_ne h qw (e ▸ hk)), hrS⟩, ⟨hm', hSb, fun t u hu => by
                  by_cases e : t = s
                  · rw [if_pos e] at hu
                    injection hu with hu
                    rw [← hu, e, ← hR]; exact hbs
                  · rw [if_neg e] at hu
                    exact hf t u hu⟩, by omega, hmk, hk0⟩
            exact this.below hbd
          · exact ((ChgS.of_below HF2.out).new hcd (fun i hi e => by subst e; exact absurd hi (by omega))).new (hcg.drewN 1) (fun i _ e => by subst e; exact hSb)
        have HFIN := Lib.hid hfin; have HQM := Lib.hid qm
        clear hfin qm q2 q3 qg qi qw k8 hcd hb8 hbl10 hch hR hbs
        go_wp2_with fail
        refine wp_region_held_drew (S := fun W' => W'.cell? ⟨w.heap.size, 0, none⟩ = some (wptr g) ∧ W'.cell? ⟨g, 2, none⟩ = some (.map (some bm)) ∧ W'.cell? ⟨w.heap.size + 1, 0, none⟩ = some (.int .u32 s.1) ∧ W'.cell? ⟨w.heap.size + 1, 1, none⟩ = some (.int .u32 s.2) ∧ W'.cell? ⟨w.heap.size + 2, 0, none⟩ = some (.string R)) (by kernel_rfl) ⟨c2, g2, c30, c31, c8⟩ (fun hHeld => ?_)
        refine wpAnyH_take (i := 0) (v := ?_) rfl (by kernel_rfl) (by kernel_rfl) (by kernel_rfl) (fun _ _ _ h => h) (Or.inl ⟨by rfl, ?_⟩) (by assumption) ?_
        rotate_left
        · intro w hSw
          (try dsimp only at hSw)
          go_simp <;> with_reducible rfl
        try simp only [Act.put, List.getElem_toArray, List.getElem_cons_succ, List.getElem_cons_zero, List.setIfInBounds_toArray, List.set_cons_zero, List.set_cons_succ]
        refine wpAnyH_take (i := 1) (v := ?_) rfl (by kernel_rfl) (by kernel_rfl) (by kernel_rfl) (fun _ _ _ h => h) (Or.inl ⟨by rfl, ?_⟩) (by assumption) ?_
        rotate_left
        · intro w hSw
          (try dsimp only at hSw)
          go_simp <;> with_reducible rfl
        try simp only [Act.put, List.getElem_toArray, List.getElem_cons_succ, List.getElem_cons_zero, List.setIfInBounds_toArray, List.set_cons_zero, List.set_cons_succ]
        refine wpAnyH_take (i := 2) (v := ?_) rfl (by kernel_rfl) (by kernel_rfl) (by kernel_rfl) (fun _ _ _ h => h) (Or.inl ⟨by rfl, ?_⟩) (by assumption) ?_
        rotate_left
        · intro w hSw
          (try dsimp only at hSw)
          go_simp <;> with_reducible rfl
        try simp only [Act.put, List.getElem_toArray, List.getElem_cons_succ, List.getElem_cons_zero, List.setIfInBounds_toArray, List.set_cons_zero, List.set_cons_succ]
        refine wpAnyH_take (i := 3) (v := ?_) rfl (by kernel_rfl) (by kernel_rfl) (by kernel_rfl) (fun _ _ _ h => h) (Or.inl ⟨by rfl, ?_⟩) (by assumption) ?_
        rotate_left
        · intro w hSw
          (try dsimp only at hSw)
          go_simp <;> with_reducible rfl
        try simp only [Act.put, List.getElem_toArray, List.getElem_cons_succ, List.getElem_cons_zero, List.setIfInBounds_toArray, List.set_cons_zero, List.set_cons_succ]
        refine wpAnyH_take (i := 4) (v := ?_) rfl (by kernel_rfl) (by kernel_rfl) (by kernel_rfl) (fun _ _ _ h => h) (Or.inl ⟨by rfl, ?_⟩) (by assumption) ?_
        rotate_left
        · intro w hSw
          (try dsimp only at hSw)
          go_simp <;> with_reducible rfl
        try simp only [Act.put, List.getElem_toArray, List.getElem_cons_succ, List.getElem_cons_zero, List.setIfInBounds_toArray, List.set_cons_zero, List.set_cons_succ]
        refine wpAnyH_take (i := 5) (v := ?_) rfl (by kernel_rfl) (by kernel_rfl) (by kernel_rfl) (fun _ _ _ h => h) (Or.inl ⟨by rfl, ?_⟩) (by assumption) ?_
        rotate_left
        · intro w hSw
          (try dsimp only at hSw)
          go_simp <;> with_reducible rfl
        try simp only [Act.put, List.getElem_toArray, List.getElem_cons_succ, List.getElem_cons_zero, List.setIfInBounds_toArray, List.set_cons_zero, List.set_cons_succ]
        refine wpAnyH_ready (rs := [6]) (by kernel_rfl) (by simp) ?_
        refine AllReadyH.cons rfl (fun K hK => ?_) AllReadyH.nil
        refine step_putMapKS rfl _ _ _ rfl bm n f rfl HQM.out (by unfold maxLen; omega) s hs R hsz rfl rfl ?_
        intro W' hm' hgr
        obtain ⟨f1, f2, f3, f4, f5, f6⟩ := HFIN.out W' hm' hgr
        refine hK.out _ _ ?_ (fun hHeld' => ?_)
        · (try dsimp only)
          exact ⟨f2, f3, f4, f5, f6⟩
        clear hK K hHeld hHeld'
        refine wpAnyH_done (by kernel_rfl) ?_ _
        have HF1 := Lib.hid f1
        clear f1 f2 f3 f4 f5 hm' hgr HFIN HQM
        go_wp2
        go_region
        all_goals (go_wp2; go_ret2; exact HF1.out)
end
end Go.Proofs.YtohggdfplmlinaaGreatDoor
