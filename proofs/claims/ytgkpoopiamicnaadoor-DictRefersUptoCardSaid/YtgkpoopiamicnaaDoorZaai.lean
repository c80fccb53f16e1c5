/-
  Layer 40: dictionaries in memory; New, valid, order, head. Conditions: texts of the reach.
-/
import Derived.Test.YtgkpoopiamicnaaDoorZaah
import Derived.Test.YtgkpoopiamicnaaDoorZaae
import Derived.Deep.RegionHeld
namespace Go.Proofs.YtgkpoopiamicnaaDoor
open Go.RowKit Go.Lib

/-- A dictionary in block g, its alphabet in block a (below B), its map in block mb; its articles lie in blocks of S. -/
structure DictM (w : World) (B a g mb : Nat) (hv : Value) (gs : Grps) (S : Nat → Prop) (L : List Art) (f : ByteArray → Option Value) : Prop where
  blk : Blk w g 60 #[.pointer (some ⟨a, 0, none⟩), .map (some mb), hv]
  alph : ∀ w', Below B w w' → Alph w' a gs
  good : GoodG gs
  map : MapH w mb L.length f
  own : w.ownsRow B 9 1 hv L.length ((headsL L).map Value.string)
  dom : ∀ s, (f s).isSome = thereB L s
  val : ∀ x ∈ L, ∃ cs, f x.head = some (aggM cs) ∧ ArtF w S x cs
  low : B ≤ w.heap.size ∧ B ≤ g ∧ B ≤ mb
  cont : ∀ b, S b → B ≤ b ∧ b < w.heap.size ∧ b ≠ g ∧ b ≠ mb ∧ hv.ownBlock ≠ some b
def artOf (L : List Art) (s : ByteArray) : Art := (getA L s).getD art0
section
variable {w w' : World} {B a g mb : Nat} {hv : Value} {gs : Grps} {S : Nat → Prop} {L : List Art} {f : ByteArray → Option Value}
theorem DictM.alphO (h : DictM w B a g mb hv gs S L f) {w' : World} (hb : Below B w w') : AlphO w' (some ⟨a, 0, none⟩) (some gs) := ⟨a, rfl, h.alph w' hb, h.good⟩
theorem DictM.cells (h : DictM w B a g mb hv gs S L f) : w.cell? ⟨g, 0, none⟩ = some (.pointer (some ⟨a, 0, none⟩)) ∧ w.cell? ⟨g, 1, none⟩ = some (.map (some mb)) ∧ w.cell? ⟨g, 2, none⟩ = some hv :=
  ⟨h.blk.cell 0, h.blk.cell 1, h.blk.cell 2⟩
/-- Other blocks turn. -/
theorem DictM.chg {T : Nat → Prop} (h : DictM w B a g mb hv gs S L f) (hc : ChgS T w w') (hB : ∀ b, T b → B ≤ b) (h1 : ¬ T g) (h2 : ¬ T mb) (h3 : ∀ b, hv.ownBlock = some b → ¬ T b) (h4 : ∀ b, S b → ¬ T b) : DictM w' B a g mb hv gs S L f where
  blk := h.blk.chgS hc h1
  alph w2 hb := h.alph w2 ((hc.below hB h.low.1).trans hb)
  good := h.good
  map := h.map.chgS hc h2
  own := own_chgS h.own hc h3
  dom := h.dom
  val x hx := by
    obtain ⟨cs, e1, e2⟩ := h.val x hx
    exact ⟨cs, e1, e2.keep (fun _ h => h) (keepS_chg hc (fun b hb => (h.cont b hb).2.1) h4)⟩
  low := ⟨Nat.le_trans h.low.1 hc.size, h.low.2⟩
  cont b hb := by
    obtain ⟨c1, c2, c3⟩ := h.cont b hb
    exact ⟨c1, Nat.lt_of_lt_of_le c2 hc.size, c3⟩
theorem DictM.below (h : DictM w B a g mb hv gs S L f) (hb : Below w.heap.size w w') : DictM w' B a g mb hv gs S L f :=
  h.chg (T := fun _ => False) (.of_below hb) (fun _ h => h.elim) (fun h => h) (fun h => h) (fun _ _ h => h) (fun _ _ h => h)
theorem DictM.lt (h : DictM w B a g mb hv gs S L f) : g < w.heap.size := h.blk.lt
/-- What the map holds at a text. -/
def artV (f : ByteArray → Option Value) (s : ByteArray) : Value := (f s).getD (aggM [.string ⟨#[]⟩, .slice none 0 0, .slice none 0 0, .slice none 0 0])
theorem DictM.at_ (h : DictM w B a g mb hv gs S L f) (s : ByteArray) : ∃ cs, artV f s = aggM cs ∧ ArtF w S (artOf L s) cs := by
  unfold artOf artV
  cases hs : getA L s with
  | none =>
    have h1 := h.dom s
    rw [getA_none.1 hs] at h1
    cases hf : f s with
    | none => exact ⟨_, rfl, artF0 w S⟩
    | some v => rw [hf] at h1; cases h1
  | some x =>
    obtain ⟨h1, h2⟩ := getA_some hs
    obtain ⟨cs, e1, e2⟩ := h.val x h1
    rw [h2] at e1
    rw [e1]
    exact ⟨cs, rfl, e2⟩
theorem zero_art (w : World) : (zeroValue 35).run Tryd.prog w = .ok (aggM [.string ⟨#[]⟩, .slice none 0 0, .slice none 0 0, .slice none 0 0]) w := by kernel_rfl
theorem DictM.look1 (h : DictM w B a g mb hv gs S L f) (s : ByteArray) (hs : s.size ≤ maxLen) :
    (Instr.lookup 58 (.map (some mb)) (.string s) false).run Tryd.prog w = .ok (artV f s) w := h.map.look1 Tryd.underlying58 (zero_art w) s hs
theorem DictM.look (h : DictM w B a g mb hv gs S L f) (s : ByteArray) (hs : s.size ≤ maxLen) :
    (Instr.lookup 58 (.map (some mb)) (.string s) true).run Tryd.prog w = .ok (.tuple #[artV f s, .bool (thereB L s)]) w := by
  rw [← h.dom s]; exact h.map.look Tryd.underlying58 (zero_art w) s hs
end
/-! The small functions. -/
section
variable {w : World} {B a g mb : Nat} {hv : Value} {gs : Grps} {S : Nat → Prop} {L : List Art} {f : ByteArray → Option Value}
theorem valid_any (h : DictM w B a g mb hv gs S L f) : Calls Tryd.prog 25 #[wptr g] w fun e w' => e = .returned (.bool true) ∧ w = w' := by
  obtain ⟨c0, c1, c2⟩ := h.cells
  clear h
  go_enter Tryd.func25, Tryd.ntmps25
  go_wp2
  go_ret
  exact ⟨rfl, rfl⟩
theorem dorder_any (h : DictM w B a g mb hv gs S L f) (s t : ByteArray) : Calls Tryd.prog 33 #[wptr g, .string s, .string t] w fun e w' => e = .returned (.int .i64 (ordT gs s t)) ∧ Below w.heap.size w w' := by
  obtain ⟨c0, c1, c2⟩ := h.cells
  have ho := order_any (some ⟨a, 0, none⟩) (some gs) s t w (h.alphO (Below.refl _ _))
  have hp : orderRes (readResO (some gs) s) (readResO (some gs) t) s t = (ordT gs s t, (orderRes (readRes gs s) (readRes gs t) s t).2) := rfl
  rw [hp] at ho
  generalize (orderRes (readRes gs s) (readRes gs t) s t).2 = z at ho
  generalize ordT gs s t = r at *
  clear h hp
  go_enter Tryd.func33, Tryd.ntmps33
  go_wp2_with fail
  refine ho.mono ?_
  rintro e w1 ⟨rfl, hb⟩
  go_wp2
  go_ret
  exact ⟨rfl, hb⟩
theorem dkey_any (h : DictM w B a g mb hv gs S L f) (s : ByteArray) : Calls Tryd.prog 46 #[wptr a, .string s] w fun e w' => (∃ v, e = .returned (.tuple #[v, .int .i64 (readRes gs s).1])) ∧ Below w.heap.size w w' := by
  refine (key_prg a gs s w (h.alph w (Below.refl _ _)) h.good).mono ?_
  rintro e w' ⟨v, rfl, _, hb⟩
  exact ⟨⟨v, rfl⟩, hb⟩
set_option maxRecDepth 20000 in
theorem dhead_any (h : DictM w B a g mb hv gs S L f) (s : ByteArray) (hs : s.size ≤ 140737488351232) : Calls Tryd.prog 51 #[wptr g, .string s] w fun e w' => e = .returned (.bool (headB gs s)) ∧ Below w.heap.size w w' := by
  obtain ⟨c0, c1, c2⟩ := h.cells
  have hk := dkey_any h s
  obtain ⟨r, hr⟩ : ∃ r, headB gs s = r := ⟨_, rfl⟩
  rw [hr]
  clear h
  by_cases h0 : s.size = 0
  · have h0s : s = ⟨#[]⟩ := by
      obtain ⟨⟨l⟩⟩ := s
      simp [ByteArray.size] at h0
      subst h0; rfl
    have e : r = false := by rw [← hr]; unfold headB; rw [decide_eq_true h0]; rfl
    subst e; subst h0s
    clear hk hr h0
    go_enter Tryd.func51, Tryd.ntmps51
    go_wp2
    go_ret
    exact ⟨rfl, Below.refl _ _⟩
  · have hne : (s.toList == []) = false := by
      rw [Lib.toList_data]
      cases hl : s.data.toList with
      | nil => exact absurd (by have := bl_len s; unfold bl at this; rw [hl] at this; exact this.symm) h0
      | cons b l => rfl
    have hpos : 0 < s.size := by omega
    by_cases h64 : 64 < s.size
    · have e : r = false := by rw [← hr]; unfold headB; rw [decide_eq_false (show ¬ s.size ≤ 64 by omega)]; simp
      subst e
      have h64I : (64 : Int) < s.size := by omega
      clear hk hr h0
      go_enter Tryd.func51, Tryd.ntmps51
      go_wp2
      go_ret
      exact ⟨rfl, Below.refl _ _⟩
    · have h64I : ¬ (64 : Int) < s.size := by omega
      have e : r = decide ((readRes gs s).1 = 0) := by rw [← hr]; unfold headB; rw [decide_eq_false h0, decide_eq_true (show s.size ≤ 64 by omega)]; rfl
      clear hr h0
      generalize (readRes gs s).1 = k at *
      go_enter Tryd.func51, Tryd.ntmps51
      go_wp2_with fail
      refine hk.mono ?_
      rintro e' w1 ⟨⟨v, rfl⟩, hb⟩
      go_wp2
      go_ret
      refine ⟨?_, hb⟩
      rw [e]; rfl
end
/-! New. -/
theorem dnew_any (a : Nat) (gs : Grps) (w : World) (B : Nat) (hB : B ≤ w.heap.size) (ha : ∀ w', Below B w w' → Alph w' a gs) (hG : GoodG gs) :
    Calls Tryd.prog 23 #[wptr a] w fun e w' => ∃ g mb, e = .returned (.tuple #[wptr g, .int .i64 0]) ∧ w.heap.size ≤ g ∧ w.heap.size ≤ mb ∧ DictM w' B a g mb (.slice none 0 0) gs (fun _ => False) [] (fun _ => none) ∧ Below w.heap.size w w' := by
  have hk := key_prg a gs ⟨#[]⟩ w (ha w (Below.refl _ _)) hG
  have hr : readRes gs ⟨#[]⟩ = (0, []) := by
    unfold readRes
    rw [if_neg (by decide)]
    have hp := parse_some_of (gs := gs) (s := ⟨#[]⟩) (by rw [strm_nil gs rfl]; simp)
    rw [hp, strm_nil gs rfl]
  rw [hr] at hk
  have hmm := @run_makeMap Tryd.prog
  have HA := Lib.hid ha
  clear hr ha
  go_enter Tryd.func23, Tryd.ntmps23
  go_wp2_with fail
  refine hk.mono ?_
  rintro e w1 ⟨v, rfl, ho, hb⟩
  have HB1 := Lib.hid hb
  have hsz := hb.size
  clear hk ho hb
  go_wp2
  go_ret2
  have hb2 : Below w.heap.size w ((w1.alloc (.map #[] 0)).alloc (.cells #[.pointer (some ⟨a, 0, none⟩), .map (some w1.heap.size), .slice none 0 0] 60)) := (HB1.out.alloc hsz _).alloc (by simp; omega) _
  refine ⟨w1.heap.size + 1, w1.heap.size, rfl, by omega, hsz, ?_, hb2⟩
  have hblk := Blk.new (w1.alloc (.map #[] 0)) 60 #[.pointer (some ⟨a, 0, none⟩), .map (some w1.heap.size), .slice none 0 0]
  rw [World.size_alloc] at hblk
  refine ⟨hblk, fun w2 h2 => HA.out w2 ((hb2.mono hB).trans h2), hG, ?_, World.ownsRow_nil _ _ _ _, fun s => rfl, by simp, ⟨by simp; omega, by omega, by omega⟩, fun _ h => h.elim⟩
  exact (MapH.made w1).below ((Below.refl _ _).alloc (Nat.le_refl _) _)
end Go.Proofs.YtgkpoopiamicnaaDoor
namespace Go.Proofs.YtgkpoopiamicnaaDoor
open Go.RowKit Go.Lib

theorem own_empty40 (w : World) (t : TypeId) (k : Nat) : (w.alloc (.cells #[] t)).ownsRow w.heap.size t k (.slice (some ⟨w.heap.size, 0, none⟩) 0 0) 0 [] :=
  ⟨by simp, .inr ⟨w.heap.size, 0, #[], rfl, Nat.le_refl _, heap_alloc_new w _, by omega, by omega, by simp, by simp⟩⟩
set_option maxRecDepth 20000 in
set_option maxHeartbeats 1000000 in
theorem cloneTx_any (A : Option Addr) (n c : Nat) (xs : List Value) (w : World) (K : Nat) (hr : Reads w K 1 A n xs) (h1 : ∀ u ∈ xs, u.oneCell' = true) (hK : K ≤ w.heap.size) (hn : n ≤ 100000) :
    Calls Tryd.prog 57 #[.slice A n c] w fun e w' => ∃ v, e = .returned v ∧ w'.ownsRow w.heap.size 9 1 v n xs ∧ Below w.heap.size w w' := by
  obtain ⟨i0, hi, hz0, hz1, hz2⟩ := info_parts (show (Tryd.prog.info? 9).map (fun i => (i.zero, i.size, i.bytes)) = some (some (.string ByteArray.empty), 1, 16) by kernel_rfl)
  have hl := hr.1
  have hnil := fun (W : World) (a : Option Addr) (n c : Nat) => Lib.run_eql_slice_nil (P := Tryd.prog) W 22 9 a n c 0 0 Tryd.underlying22
  rcases A with _ | ad
  · have h0 : n = 0 := by
      rcases Nat.eq_zero_or_pos n with h | h
      · exact h
      · obtain ⟨_, h', _⟩ := hr.2 h; cases h'
    subst h0
    obtain rfl : xs = [] := List.eq_nil_of_length_eq_zero (by omega)
    clear hl
    go_enter Tryd.func57, Tryd.ntmps57
    go_wp2
    go_ret
    exact ⟨_, rfl, World.ownsRow_nil _ _ _ _, Below.refl _ _⟩
  · have hown := own_empty40 w 9 1
    have hr' := (hr.more hK).alloc (Nat.le_refl _) (.cells #[] 9)
    clear hl
    go_enter Tryd.func57, Tryd.ntmps57
    go_wp2_with (at_builtin; refine wpList_append_any _ rfl _ _ _ rfl w.heap.size 9 i0 (.string ByteArray.empty) 1 16 Tryd.underlying22 hi hz0 hz1 hz2 rfl (by decide) _ _ _ rfl hown w.heap.size _ _ _ xs rfl hr' h1 (by unfold maxLen; omega) (by omega) (by simp) ?_; intro v' w1 hown' hgrow _)
    have hb1 : Below w.heap.size w w1 := ((Below.refl _ w).alloc (Nat.le_refl _) _).grown hgrow (by simp) (fun g hg => (hown.lt g hg).1)
    clear hgrow
    go_ret
    exact ⟨_, rfl, by simpa using hown', hb1⟩
set_option maxRecDepth 20000 in
set_option maxHeartbeats 1000000 in
theorem cloneSn_any (A : Option Addr) (n c : Nat) (xs : List Value) (w : World) (K : Nat) (hr : Reads w K 2 A n xs) (h1 : ∀ u ∈ xs, u.oneCell' = true) (hK : K ≤ w.heap.size) (hn : n ≤ 100000) :
    Calls Tryd.prog 56 #[.slice A n c] w fun e w' => ∃ v, e = .returned v ∧ w'.ownsRow w.heap.size 80 2 v n xs ∧ Below w.heap.size w w' := by
  obtain ⟨i0, hi, hz0, hz1, hz2⟩ := info_parts (show (Tryd.prog.info? 80).map (fun i => (i.zero, i.size, i.bytes)) = some (some (.agg #[.int .u32 0, .int .u32 0]), 2, 8) by kernel_rfl)
  have hl := hr.1
  have hnil := fun (W : World) (a : Option Addr) (n c : Nat) => Lib.run_eql_slice_nil (P := Tryd.prog) W 33 80 a n c 0 0 Tryd.underlying33
  rcases A with _ | ad
  · have h0 : n = 0 := by
      rcases Nat.eq_zero_or_pos n with h | h
      · exact h
      · obtain ⟨_, h', _⟩ := hr.2 h; cases h'
    subst h0
    obtain rfl : xs = [] := List.eq_nil_of_length_eq_zero (by omega)
    clear hl
    go_enter Tryd.func56, Tryd.ntmps56
    go_wp2
    go_ret
    exact ⟨_, rfl, World.ownsRow_nil _ _ _ _, Below.refl _ _⟩
  · have hown := own_empty40 w 80 2
    have hr' := (hr.more hK).alloc (Nat.le_refl _) (.cells #[] 80)
    clear hl
    go_enter Tryd.func56, Tryd.ntmps56
    go_wp2_with (at_builtin; refine wpList_append_any _ rfl _ _ _ rfl w.heap.size 80 i0 (.agg #[.int .u32 0, .int .u32 0]) 2 8 Tryd.underlying33 hi hz0 hz1 hz2 rfl (by decide) _ _ _ rfl hown w.heap.size _ _ _ xs rfl hr' h1 (by unfold maxLen; omega) (by omega) (by simp) ?_; intro v' w1 hown' hgrow _)
    have hb1 : Below w.heap.size w w1 := ((Below.refl _ w).alloc (Nat.le_refl _) _).grown hgrow (by simp) (fun g hg => (hown.lt g hg).1)
    clear hgrow
    go_ret
    exact ⟨_, rfl, by simpa using hown', hb1⟩
theorem str_one (l : List ByteArray) : ∀ u ∈ l.map Value.string, u.oneCell' = true := fun u hu => by
  obtain ⟨x, _, rfl⟩ := List.mem_map.1 hu
  rfl
theorem snd_one (l : List Snd) : ∀ u ∈ l.flatMap sndC, u.oneCell' = true := fun u hu => by
  obtain ⟨x, _, hx⟩ := List.mem_flatMap.1 hu
  simp only [List.mem_cons, List.not_mem_nil, or_false] at hx
  rcases hx with rfl | rfl <;> rfl
/-- An article that shares nothing: its cells, in new memory. -/
def ClonePost (w : World) (x : Art) (e : Ending) (w' : World) : Prop := ∃ cs, e = .returned (aggM cs) ∧ ArtF w' (NewS w w') x cs ∧ Below w.heap.size w w'
structure ArtShort (x : Art) : Prop where
  word : x.word.length ≤ 100000
  texts : x.texts.length ≤ 100000
  see : x.see.length ≤ 100000
section
variable {P : Program} {ops : Array Oper} {Q : Exit → Act → World → Prop} {md : Region.Mode} {S : World → Prop}
/-- A word that holds behind every operation, whatever comes up. -/
theorem wpAnyH_inv40 (I : Nat → Array Bool → Act → World → Prop)
    (step : ∀ fuel listed a w, I (fuel + 1) listed a w → wpAnyH P md ops Q S (fuel + 1) listed a w ∨ (Region.ready md ops listed ≠ [] ∧ ∀ i ∈ Region.ready md ops listed, ∃ o, ops[i]? = some o ∧ ∀ K : Act → World → Prop, (∀ a w, S w → I fuel (listed.setIfInBounds i true) a w → K a w) → if Region.wanted o (yielded ops a.tmps) = true then Oper.wp P o a w K Q else K (a.put o.dst undef) w))
    (zero : ∀ listed a w, I 0 listed a w → wpAnyH P md ops Q S 0 listed a w) : ∀ fuel listed a w, I fuel listed a w → wpAnyH P md ops Q S fuel listed a w
  | 0, listed, a, w, h => zero listed a w h
  | fuel + 1, listed, a, w, h => by
    rcases step fuel listed a w h with h1 | ⟨h1, h2⟩
    · exact h1
    · refine wpAnyH_all rfl h1 fun i hi => ?_
      obtain ⟨o, ho, h3⟩ := h2 i hi
      exact wpOp_step ho (fun K hK => h3 K (fun a w hS hI => hK a w ⟨hS, wpAnyH_inv40 I step zero fuel _ a w hI⟩))
end
theorem mem_chk40 {l : List Nat} {p : Nat → Bool} {i : Nat} (h : l.all p = true) (hi : i ∈ l) : p i = true := List.all_eq_true.1 h i hi
theorem ne_chk40 {l : List Nat} (h : l.isEmpty = false) : l ≠ [] := fun e => by rw [e] at h; cases h
/-- What was done so far: the clones. -/
structure ClI (W0 : World) (b : Nat) (hd : ByteArray) (A1 A2 A3 : Option Addr) (c1 c2 c3 n1 n2 n3 : Nat) (y1 y2 y3 : List Value) (k : Nat) (u1 u2 u3 : Value) (w : World) : Prop where
  below : Below W0.heap.size W0 w
  blt : b + 1 < W0.heap.size
  blk : Blk W0 b 35 #[.string hd, .slice A1 n1 c1, .slice A2 n2 c2, .slice A3 n3 c3]
  r1 : 1 ≤ k → w.ownsRow W0.heap.size 80 2 u1 n1 y1
  r2 : 2 ≤ k → w.ownsRow W0.heap.size 9 1 u2 n2 y2
  r3 : 3 ≤ k → w.ownsRow W0.heap.size 9 1 u3 n3 y3
section
variable {W0 w w' : World} {b : Nat} {hd : ByteArray} {A1 A2 A3 : Option Addr} {c1 c2 c3 n1 n2 n3 k : Nat} {y1 y2 y3 : List Value} {u1 u2 u3 : Value}
theorem ClI.next (h : ClI W0 b hd A1 A2 A3 c1 c2 c3 n1 n2 n3 y1 y2 y3 k u1 u2 u3 w) (hb : Below w.heap.size w w') : ClI W0 b hd A1 A2 A3 c1 c2 c3 n1 n2 n3 y1 y2 y3 k u1 u2 u3 w' :=
  ⟨h.below.trans (hb.mono h.below.size), h.blt, h.blk, fun hk => own_below (h.r1 hk) hb, fun hk => own_below (h.r2 hk) hb, fun hk => own_below (h.r3 hk) hb⟩
theorem ClI.cells (h : ClI W0 b hd A1 A2 A3 c1 c2 c3 n1 n2 n3 y1 y2 y3 k u1 u2 u3 w) : w.cell? ⟨b, 1, none⟩ = some (.slice A1 n1 c1) ∧ w.cell? ⟨b, 2, none⟩ = some (.slice A2 n2 c2) ∧ w.cell? ⟨b, 3, none⟩ = some (.slice A3 n3 c3) := by
  have hx := h.blk.below h.below (by have := h.blt; omega)
  exact ⟨hx.cell 1, hx.cell 2, hx.cell 3⟩
theorem ClI.call1 (h : ClI W0 b hd A1 A2 A3 c1 c2 c3 n1 n2 n3 y1 y2 y3 0 u1 u2 u3 w) {v : Value} (hb : Below w.heap.size w w') (ho : w'.ownsRow w.heap.size 80 2 v n1 y1) : ClI W0 b hd A1 A2 A3 c1 c2 c3 n1 n2 n3 y1 y2 y3 1 v u2 u3 w' := by
  have hn := h.next hb
  exact { hn with r1 := fun _ => own_mono ho h.below.size, r2 := fun h => absurd h (by omega), r3 := fun h => absurd h (by omega) }
theorem ClI.call2 (h : ClI W0 b hd A1 A2 A3 c1 c2 c3 n1 n2 n3 y1 y2 y3 1 u1 u2 u3 w) {v : Value} (hb : Below w.heap.size w w') (ho : w'.ownsRow w.heap.size 9 1 v n2 y2) : ClI W0 b hd A1 A2 A3 c1 c2 c3 n1 n2 n3 y1 y2 y3 2 u1 v u3 w' := by
  have hn := h.next hb
  exact { hn with r1 := fun _ => hn.r1 (by omega), r2 := fun _ => own_mono ho h.below.size, r3 := fun h => absurd h (by omega) }
theorem ClI.call3 (h : ClI W0 b hd A1 A2 A3 c1 c2 c3 n1 n2 n3 y1 y2 y3 2 u1 u2 u3 w) {v : Value} (hb : Below w.heap.size w w') (ho : w'.ownsRow w.heap.size 9 1 v n3 y3) : ClI W0 b hd A1 A2 A3 c1 c2 c3 n1 n2 n3 y1 y2 y3 3 u1 u2 v w' := by
  have hn := h.next hb
  exact { hn with r1 := fun _ => hn.r1 (by omega), r2 := fun _ => hn.r2 (by omega), r3 := fun _ => own_mono ho h.below.size }
end
def leftL (k : Nat) (m1 m2 m3 m9 : Bool) : Nat := (3 - k) + ((if m1 then 0 else 1) + (if m2 then 0 else 1) + (if m3 then 0 else 1) + (if m9 then 0 else 1))
def chkL (k : Nat) (m1 m2 m3 m9 : Bool) (i : Nat) : Bool := (i == 1 && !m1) || (i == 4 && !m2) || (i == 7 && !m3) || (i == 2 && k == 0 && m1) || (i == 5 && k == 1 && m2) || (i == 8 && k == 2 && m3) || (i == 9 && !m9 && m1 && m2 && m3 && decide (1 ≤ k))
theorem chkL_cases {k : Nat} {m1 m2 m3 m9 : Bool} {i : Nat} (h : chkL k m1 m2 m3 m9 i = true) : (i = 1 ∧ m1 = false) ∨ (i = 4 ∧ m2 = false) ∨ (i = 7 ∧ m3 = false) ∨ (i = 2 ∧ k = 0 ∧ m1 = true) ∨ (i = 5 ∧ k = 1 ∧ m2 = true) ∨ (i = 8 ∧ k = 2 ∧ m3 = true) ∨ (i = 9 ∧ m9 = false ∧ m1 = true ∧ m2 = true ∧ m3 = true ∧ 1 ≤ k) := by
  unfold chkL at h
  simp only [Bool.or_eq_true, Bool.and_eq_true, beq_iff_eq, Bool.not_eq_true', decide_eq_true_eq] at h
  rcases h with (((((h | h) | h) | h) | h) | h) | h
  · exact .inl h
  · exact .inr (.inl h)
  · exact .inr (.inr (.inl h))
  · exact .inr (.inr (.inr (.inl ⟨h.1.1, h.1.2, h.2⟩)))
  · exact .inr (.inr (.inr (.inr (.inl ⟨h.1.1, h.1.2, h.2⟩))))
  · exact .inr (.inr (.inr (.inr (.inr (.inl ⟨h.1.1, h.1.2, h.2⟩)))))
  · exact .inr (.inr (.inr (.inr (.inr (.inr ⟨h.1.1.1.1.1, h.1.1.1.1.2, h.1.1.1.2, h.1.1.2, h.1.2, h.2⟩)))))
set_option linter.unusedSimpArgs false in
set_option maxRecDepth 20000 in
set_option maxHeartbeats 4000000 in
theorem cloned_any {w : World} {S : Nat → Prop} {x : Art} {cs : List Value} (h : ArtF w S x cs) (hS : ∀ b, S b → b < w.heap.size) (hx : ArtShort x) :
    Calls Tryd.prog 35 #[aggM cs] w (ClonePost w x) := by
  obtain ⟨v1, v2, v3, rfl, ⟨A1, c1, rfl, q1, r1⟩, ⟨A2, c2, rfl, q2, r2⟩, ⟨A3, c3, rfl, q3, r3⟩⟩ := h
  have hR1 := r1.reads hS
  have hR2 := r2.reads hS
  have hR3 := r3.reads hS
  have k1 := fun W (hb : Below w.heap.size w W) => cloneSn_any A1 _ c1 _ W w.heap.size (hR1.below hb) (snd_one _) hb.size hx.word
  have k2 := fun W (hb : Below w.heap.size w W) => cloneTx_any A2 _ c2 _ W w.heap.size (hR2.below hb) (str_one _) hb.size hx.texts
  have k3 := fun W (hb : Below w.heap.size w W) => cloneTx_any A3 _ c3 _ W w.heap.size (hR3.below hb) (str_one _) hb.size hx.see
  have K1 := Lib.hid k1; have K2 := Lib.hid k2; have K3 := Lib.hid k3
  clear k1 k2 k3 hR1 hR2 hR3 r1 r2 r3 q1 q2 q3 hS hx
  obtain ⟨hd, l1, l2, l3⟩ := x
  dsimp only at *
  generalize hn1 : l1.length = n1 at *
  generalize hn2 : l2.length = n2 at *
  generalize hn3 : l3.length = n3 at *
  have HN1 := Lib.hid hn1; have HN2 := Lib.hid hn2; have HN3 := Lib.hid hn3
  clear hn1 hn2 hn3
  have hb0 := (Below.refl w.heap.size w).alloc (Nat.le_refl _) (.cells #[.string hd, .slice A1 n1 c1, .slice A2 n2 c2, .slice A3 n3 c3] 35)
  have hb1 := hb0.alloc hb0.size (.cells #[.string ⟨#[]⟩, .slice none 0 0, .slice none 0 0, .slice none 0 0] 35)
  have hx := (Blk.new w 35 #[.string hd, .slice A1 n1 c1, .slice A2 n2 c2, .slice A3 n3 c3]).alloc (.cells #[.string ⟨#[]⟩, .slice none 0 0, .slice none 0 0, .slice none 0 0] 35)
  have hr := Blk.new (w.alloc (.cells #[.string hd, .slice A1 n1 c1, .slice A2 n2 c2, .slice A3 n3 c3] 35)) 35 #[.string ⟨#[]⟩, .slice none 0 0, .slice none 0 0, .slice none 0 0]
  rw [World.size_alloc] at hr
  go_enter Tryd.func35, Tryd.ntmps35
  go_upto_region 1 with fail
  obtain ⟨W0, hW0⟩ : ∃ W, (w.alloc (.cells #[.string hd, .slice A1 n1 c1, .slice A2 n2 c2, .slice A3 n3 c3] 35)).alloc (.cells #[.string ⟨#[]⟩, .slice none 0 0, .slice none 0 0, .slice none 0 0] 35) = W := ⟨_, rfl⟩
  have hsz0 : W0.heap.size = w.heap.size + 2 := by rw [← hW0]; simp
  rw [hW0] at hb1 hx hr ⊢
  obtain ⟨b, hbw⟩ : ∃ b, w.heap.size = b := ⟨_, rfl⟩
  rw [hbw] at hx hr hsz0 ⊢
  have HB1 := Lib.hid hb1; have HR := Lib.hid hr; have HBW := Lib.hid hbw
  clear hb0 hb1 hW0 hr hbw
  refine wp_region_held_drew (S := fun _ => True) (by kernel_rfl) trivial (fun hHeld => ?_)
  refine wpAnyH_take (i := 0) (v := ?_) rfl (by kernel_rfl) (by kernel_rfl) (by kernel_rfl) (fun _ _ _ h => h) (Or.inl ⟨by rfl, ?_⟩) (by assumption) ?_
  rotate_left
  · intro w hSw
    (try dsimp only at hSw)
    go_simp <;> with_reducible rfl
  try simp only [Act.put, List.getElem_toArray, List.getElem_cons_succ, List.getElem_cons_zero, List.setIfInBounds_toArray, List.set_cons_zero, List.set_cons_succ]
  refine wpAnyH_take (i := 3) (v := ?_) rfl (by kernel_rfl) (by kernel_rfl) (by kernel_rfl) (fun _ _ _ h => h) (Or.inl ⟨by rfl, ?_⟩) (by assumption) ?_
  rotate_left
  · intro w hSw
    (try dsimp only at hSw)
    go_simp <;> with_reducible rfl
  try simp only [Act.put, List.getElem_toArray, List.getElem_cons_succ, List.getElem_cons_zero, List.setIfInBounds_toArray, List.set_cons_zero, List.set_cons_succ]
  refine wpAnyH_take (i := 6) (v := ?_) rfl (by kernel_rfl) (by kernel_rfl) (by kernel_rfl) (fun _ _ _ h => h) (Or.inl ⟨by rfl, ?_⟩) (by assumption) ?_
  rotate_left
  · intro w hSw
    (try dsimp only at hSw)
    go_simp <;> with_reducible rfl
  try simp only [Act.put, List.getElem_toArray, List.getElem_cons_succ, List.getElem_cons_zero, List.setIfInBounds_toArray, List.set_cons_zero, List.set_cons_succ]
  refine wpAnyH_inv40 (fun fuel listed a w' => ∃ k m1 m2 m3 m9 u1 u2 u3, fuel = 5 + leftL k m1 m2 m3 m9 ∧ k ≤ 3 ∧ (1 ≤ k → m1 = true) ∧ (2 ≤ k → m2 = true) ∧ (3 ≤ k → m3 = true) ∧ (m9 = true → m1 = true ∧ m2 = true ∧ m3 = true ∧ 1 ≤ k) ∧ listed = #[true, m1, decide (1 ≤ k), true, m2, decide (2 ≤ k), true, m3, decide (3 ≤ k), m9, false, false, false, false, false] ∧
    a = { tmps := #[aggM [.string hd, .slice A1 n1 c1, .slice A2 n2 c2, .slice A3 n3 c3], .pointer (some ⟨b, 0, none⟩), .pointer (some ⟨b + 1, 0, none⟩), .pointer (some ⟨b, 1, none⟩), cond m1 (.slice A1 n1 c1) undef, u1, .pointer (some ⟨b, 2, none⟩), cond m2 (.slice A2 n2 c2) undef, u2, .pointer (some ⟨b, 3, none⟩), cond m3 (.slice A3 n3 c3) undef, u3, cond m9 (.pointer (some ⟨b, 1, none⟩)) undef, undef, undef, undef], defers := [] } ∧
    ClI W0 b hd A1 A2 A3 c1 c2 c3 n1 n2 n3 (l1.flatMap sndC) (l2.map Value.string) (l3.map Value.string) k u1 u2 u3 w') ?step ?zero 12 _ _ _ ⟨0, false, false, false, false, undef, undef, undef, rfl, by omega, fun h => absurd h (by omega), fun h => absurd h (by omega), fun h => absurd h (by omega), fun h => (by cases h), rfl, rfl, ⟨(Below.refl W0.heap.size W0).drew, by omega, hx, fun h => absurd h (by omega), fun h => absurd h (by omega), fun h => absurd h (by omega)⟩⟩
  case zero =>
    rintro listed a w' ⟨k, m1, m2, m3, m9, u1, u2, u3, hf, -⟩
    omega
  case step =>
    rintro fuel listed a w' ⟨k, m1, m2, m3, m9, u1, u2, u3, hf, hk3, g1, g2, g3, g9, rfl, rfl, hI⟩
    have HI := Lib.hid hI
    clear hI
    by_cases hfin : k = 3 ∧ m9 = true
    · obtain ⟨rfl, rfl⟩ := hfin
      obtain rfl := g1 (by omega)
      obtain rfl := g2 (by omega)
      obtain rfl := g3 (by omega)
      left
      obtain rfl : fuel = 4 := by unfold leftL at hf; simp at hf; omega
      have o1 := HI.out.r1 (by omega)
      have o2 := HI.out.r2 (by omega)
      have o3 := HI.out.r3 (by omega)
      obtain ⟨B1, d1, rfl, _⟩ := ownsRow_form o1
      obtain ⟨B2, d2, rfl, _⟩ := ownsRow_form o2
      obtain ⟨B3, d3, rfl, _⟩ := ownsRow_form o3
      have hxb := HI.out.blk.below HI.out.below (by have := HI.out.blt; omega)
      have hrb := HR.out.below HI.out.below (by have := HI.out.blt; omega)
      have x0 := hxb.cell 0; have x1 := hxb.cell 1; have x2 := hxb.cell 2; have x3 := hxb.cell 3
      have f1 := hxb.frozen 1; have f2 := hxb.frozen 2; have f3 := hxb.frozen 3
      have y0 := hrb.cell 0; have y1 := hrb.cell 1; have y2 := hrb.cell 2; have y3 := hrb.cell 3
      have e0 := hrb.frozen 0; have e1 := hrb.frozen 1; have e2 := hrb.frozen 2; have e3 := hrb.frozen 3
      simp only [List.getElem?_toArray, List.getElem?_cons_zero, List.getElem?_cons_succ] at x0 x1 x2 x3 y0 y1 y2 y3
      have hfb := ((((((hrb.far (p := ⟨b, 1, none⟩) (by simp) (.slice B1 n1 d1)).far (p := ⟨b, 2, none⟩) (by simp) (.slice B2 n2 d2)).far (p := ⟨b, 3, none⟩) (by simp) (.slice B3 n3 d3)).set_ 0 (.string hd)).set_ 1 (.slice B1 n1 d1)).set_ 2 (.slice B2 n2 d2)).set_ 3 (.slice B3 n3 d3)
      simp only [List.setIfInBounds_toArray, List.set_cons_zero, List.set_cons_succ] at hfb
      have hch := (((((((ChgS.refl (fun k => k = b ∨ k = b + 1) w').setCell (p := ⟨b, 1, none⟩) (.inl (.inl rfl)) (.slice B1 n1 d1)).setCell (p := ⟨b, 2, none⟩) (.inl (.inl rfl)) (.slice B2 n2 d2)).setCell (p := ⟨b, 3, none⟩) (.inl (.inl rfl)) (.slice B3 n3 d3)).setCell (p := ⟨b + 1, 0, none⟩) (.inl (.inr rfl)) (.string hd)).setCell (p := ⟨b + 1, 1, none⟩) (.inl (.inr rfl)) (.slice B1 n1 d1)).setCell (p := ⟨b + 1, 2, none⟩) (.inl (.inr rfl)) (.slice B2 n2 d2)).setCell (p := ⟨b + 1, 3, none⟩) (.inl (.inr rfl)) (.slice B3 n3 d3)
      have hblt := HI.out.blt
      have p1 := own_chgS o1 hch (fun k hk hs => by have := (o1.lt k hk).1; omega)
      have p2 := own_chgS o2 hch (fun k hk hs => by have := (o2.lt k hk).1; omega)
      have p3 := own_chgS o3 hch (fun k hk hs => by have := (o3.lt k hk).1; omega)
      have hbel : Below w.heap.size w _ := (HB1.out.trans (HI.out.below.mono HB1.out.size)).trans (hch.below (B := w.heap.size) (fun k hk => by have := HBW.out; omega) (by have := HBW.out; have := HI.out.below.size; omega))
      have z0 := hfb.cell 0; have z1 := hfb.cell 1; have z2 := hfb.cell 2; have z3 := hfb.cell 3
      simp only [List.getElem?_toArray, List.getElem?_cons_zero, List.getElem?_cons_succ] at z0 z1 z2 z3
      have P1 := Lib.hid p1; have P2 := Lib.hid p2; have P3 := Lib.hid p3; have BEL := Lib.hid hbel; have Z0 := Lib.hid z0; have Z1 := Lib.hid z1; have Z2 := Lib.hid z2; have Z3 := Lib.hid z3; have LT := Lib.hid (show ∀ k, W0.heap.size ≤ k → w.heap.size ≤ k from fun k hk => by have := HBW.out; omega)
      clear hf o1 o2 o3 g1 g2 g3 g9 hxb hrb hfb hch p1 p2 p3 hbel z0 z1 z2 z3
      refine wpAnyH_ready (rs := [10]) (by kernel_rfl) (by simp) ?_
      refine AllReadyH.cons rfl (fun K hK => ?_) AllReadyH.nil
      go_simp
      refine hK.out _ _ trivial (fun hHeld' => ?_)
      clear hK K hHeld
      have hHeld := hHeld'
      clear hHeld'
      refine wpAnyH_ready (rs := [11]) (by kernel_rfl) (by simp) ?_
      refine AllReadyH.cons rfl (fun K hK => ?_) AllReadyH.nil
      go_simp
      refine hK.out _ _ trivial (fun hHeld' => ?_)
      clear hK K hHeld
      have hHeld := hHeld'
      clear hHeld'
      refine wpAnyH_ready (rs := [12]) (by kernel_rfl) (by simp) ?_
      refine AllReadyH.cons rfl (fun K hK => ?_) AllReadyH.nil
      go_simp
      refine hK.out _ _ trivial (fun hHeld' => ?_)
      clear hK K hHeld
      have hHeld := hHeld'
      clear hHeld'
      refine wpAnyH_ready (rs := [13]) (by kernel_rfl) (by simp) ?_
      refine AllReadyH.cons rfl (fun K hK => ?_) AllReadyH.nil
      go_simp
      refine hK.out _ _ trivial (fun hHeld' => ?_)
      clear hK K hHeld
      have hHeld := hHeld'
      clear hHeld'
      refine wpAnyH_ready (rs := [14]) (by kernel_rfl) (by simp) ?_
      refine AllReadyH.cons rfl (fun K hK => ?_) AllReadyH.nil
      go_simp
      refine hK.out _ _ trivial (fun hHeld' => ?_)
      clear hK K hHeld
      have hHeld := hHeld'
      clear hHeld'
      refine wpAnyH_done (by kernel_rfl) ?_ _
      go_wp2
      refine bodyPost_ret (v := aggM [.string hd, .slice B1 n1 d1, .slice B2 n2 d2, .slice B3 n3 d3]) (by simp [results, Tryd.results35, go_sem, Z0.out, Z1.out, Z2.out, Z3.out]) rfl ⟨_, rfl, ⟨_, _, _, rfl, ?_, ?_, ?_⟩, BEL.out⟩
      · exact wdF_own (base := W0.heap.size) (by rw [HN1.out]; exact P1.out) (fun k hk => ⟨LT.out _ (P1.out.lt k hk).1, (P1.out.lt k hk).2⟩)
      · exact txF_own (base := W0.heap.size) (by rw [HN2.out]; exact P2.out) (fun k hk => ⟨LT.out _ (P2.out.lt k hk).1, (P2.out.lt k hk).2⟩)
      · exact txF_own (base := W0.heap.size) (by rw [HN3.out]; exact P3.out) (fun k hk => ⟨LT.out _ (P3.out.lt k hk).1, (P3.out.lt k hk).2⟩)
    · right
      refine ⟨ne_chk40 ?_, fun i hi => ?_⟩
      · clear HI hf
        rcases (by omega : k = 0 ∨ k = 1 ∨ k = 2 ∨ k = 3) with rfl | rfl | rfl | rfl <;> cases m1 <;> cases m2 <;> cases m3 <;> cases m9 <;> first | (exact absurd (g1 (by omega)) (by decide)) | (exact absurd (g2 (by omega)) (by decide)) | (exact absurd (g3 (by omega)) (by decide)) | (exact absurd ⟨rfl, rfl⟩ hfin) | (exact absurd (g9 rfl) (by decide)) | kernel_rfl
      have hp : chkL k m1 m2 m3 m9 i = true := by
        refine mem_chk40 ?_ hi
        clear HI hf hi
        rcases (by omega : k = 0 ∨ k = 1 ∨ k = 2 ∨ k = 3) with rfl | rfl | rfl | rfl <;> cases m1 <;> cases m2 <;> cases m3 <;> cases m9 <;> first | (exact absurd (g1 (by omega)) (by decide)) | (exact absurd (g2 (by omega)) (by decide)) | (exact absurd (g3 (by omega)) (by decide)) | (exact absurd ⟨rfl, rfl⟩ hfin) | (exact absurd (g9 rfl) (by decide)) | kernel_rfl
      obtain ⟨s1, s2, s3⟩ := HI.out.cells
      have hbb : Below w.heap.size w w' := HB1.out.trans (HI.out.below.mono HB1.out.size)
      have HBB := Lib.hid hbb
      clear hi hbb
      rcases chkL_cases hp with ⟨rfl, rfl⟩ | ⟨rfl, rfl⟩ | ⟨rfl, rfl⟩ | ⟨rfl, rfl, rfl⟩ | ⟨rfl, rfl, rfl⟩ | ⟨rfl, rfl, rfl⟩ | ⟨rfl, rfl, rfl, rfl, rfl, hk1⟩
      · refine ⟨_, rfl, fun K hK => ?_⟩
        have HKK := Lib.hid (hK _ _ trivial ⟨k, true, m2, m3, m9, u1, u2, u3, by unfold leftL at hf ⊢; simp at hf ⊢; omega, hk3, fun _ => rfl, g2, g3, fun h => absurd (g9 h).1 (by decide), rfl, rfl, HI.out⟩)
        clear hK hp
        go_simp
        exact HKK.out
      · refine ⟨_, rfl, fun K hK => ?_⟩
        have HKK := Lib.hid (hK _ _ trivial ⟨k, m1, true, m3, m9, u1, u2, u3, by unfold leftL at hf ⊢; simp at hf ⊢; omega, hk3, g1, fun _ => rfl, g3, fun h => absurd (g9 h).2.1 (by decide), rfl, rfl, HI.out⟩)
        clear hK hp
        go_simp
        exact HKK.out
      · refine ⟨_, rfl, fun K hK => ?_⟩
        have HKK := Lib.hid (hK _ _ trivial ⟨k, m1, m2, true, m9, u1, u2, u3, by unfold leftL at hf ⊢; simp at hf ⊢; omega, hk3, g1, g2, fun _ => rfl, fun h => absurd (g9 h).2.2.1 (by decide), rfl, rfl, HI.out⟩)
        clear hK hp
        go_simp
        exact HKK.out
      · refine ⟨_, rfl, fun K hK => ?_⟩
        have HKK := Lib.hid hK
        clear hK hp
        go_simp
        (try go_wp2_with fail)
        refine (K1.out w' HBB.out).mono ?_
        rintro e w1 ⟨v, rfl, ho, hb1⟩
        refine HKK.out _ _ trivial ⟨1, true, m2, m3, m9, v, _, _, ?_, by omega, fun _ => rfl, fun h => absurd h (by omega), fun h => absurd h (by omega), fun h => absurd (g9 h).2.2.2 (by omega), rfl, rfl, HI.out.call1 hb1 ho⟩
        unfold leftL at hf ⊢; omega
      · obtain rfl : m1 = true := g1 (by omega)
        refine ⟨_, rfl, fun K hK => ?_⟩
        have HKK := Lib.hid hK
        clear hK hp
        go_simp
        (try go_wp2_with fail)
        refine (K2.out w' HBB.out).mono ?_
        rintro e w1 ⟨v, rfl, ho, hb1⟩
        refine HKK.out _ _ trivial ⟨2, true, true, m3, m9, _, v, _, ?_, by omega, fun _ => rfl, fun _ => rfl, fun h => absurd h (by omega), fun h => ⟨rfl, rfl, (g9 h).2.2.1, by omega⟩, rfl, rfl, HI.out.call2 hb1 ho⟩
        unfold leftL at hf ⊢; omega
      · obtain rfl : m1 = true := g1 (by omega)
        obtain rfl : m2 = true := g2 (by omega)
        refine ⟨_, rfl, fun K hK => ?_⟩
        have HKK := Lib.hid hK
        clear hK hp
        go_simp
        (try go_wp2_with fail)
        refine (K3.out w' HBB.out).mono ?_
        rintro e w1 ⟨v, rfl, ho, hb1⟩
        refine HKK.out _ _ trivial ⟨3, true, true, true, m9, _, _, v, ?_, by omega, fun _ => rfl, fun _ => rfl, fun _ => rfl, fun _ => ⟨rfl, rfl, rfl, by omega⟩, rfl, rfl, HI.out.call3 hb1 ho⟩
        unfold leftL at hf ⊢; omega
      · refine ⟨_, rfl, fun K hK => ?_⟩
        have HKK := Lib.hid (hK _ _ trivial ⟨k, true, true, true, true, u1, u2, u3, by unfold leftL at hf ⊢; simp at hf ⊢; omega, hk3, fun _ => rfl, fun _ => rfl, fun _ => rfl, fun _ => ⟨rfl, rfl, rfl, hk1⟩, rfl, rfl, HI.out⟩)
        clear hK hp
        go_simp
        exact HKK.out
end Go.Proofs.YtgkpoopiamicnaaDoor
