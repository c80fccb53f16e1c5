/-
  layer 4: notations that are nil, or were not made by New; inventories that are none. Conditions: none. (Printed by nil.py.)
-/
import Derived.Test.YtohggdfplmlinaaGreatDoorZaar
import Derived.Deep.QuietTactic
import Derived.BigQuiet
namespace Go.Proofs.YtohggdfplmlinaaGreatDoor
open Go.RowKit Go.Lib
attribute [local go_sem] Oper.semAt_some

/-- A notation that is nil, or was not made by New. -/
def NilN (w : World) (p : Value) : Prop := p = .pointer none ∨ ∃ q, p = wptr q ∧ Blk w q 79 #[.pointer none, .slice none 0 0, .map none]
theorem NilN.below {w w' : World} {p : Value} (h : NilN w p) (hb : Below w.heap.size w w') : NilN w' p := by
  rcases h with h | ⟨q, h1, h2⟩
  · exact .inl h
  · exact .inr ⟨q, h1, h2.below hb h2.lt⟩
/-- An inventory that is nil, or was not made by New. -/
def NilI (w : World) (p : Value) : Prop := p = .pointer none ∨ ∃ q, p = wptr q ∧ Blk w q 92 #[.slice none 0 0, .map none, .slice none 0 0, .map none, .map none]
section
variable {w : World} {p : Value}
theorem nvalid_nil (h : NilN w p) : Calls Tryz.prog 31 #[p] w fun e w' => e = .returned (.bool false) ∧ w = w' := by
  rcases h with rfl | ⟨q, rfl, h1⟩
  · go_enter Tryz.func31, Tryz.ntmps31
    go_wp2
    go_ret
    exact ⟨rfl, rfl⟩
  · have c0 := h1.cell 0
    simp only [List.getElem?_toArray, List.getElem?_cons_zero] at c0
    clear h1
    go_enter Tryz.func31, Tryz.ntmps31
    go_wp2
    go_ret
    exact ⟨rfl, rfl⟩
theorem made_nil (h : NilI w p) : Calls Tryz.prog 48 #[p] w fun e w' => e = .returned (.bool false) ∧ w = w' := by
  rcases h with rfl | ⟨q, rfl, h1⟩
  · go_enter Tryz.func48, Tryz.ntmps48
    go_wp2
    go_ret
    exact ⟨rfl, rfl⟩
  · have c1 := h1.cell 1
    simp only [List.getElem?_toArray, List.getElem?_cons_zero, List.getElem?_cons_succ] at c1
    have hnil := fun (W : World) (r : Option Nat) => run_neq_map_nil (P := Tryz.prog) W 89 9 3 r Tryz.underlying89
    clear h1
    go_enter Tryz.func48, Tryz.ntmps48
    go_wp2
    go_ret
    exact ⟨rfl, rfl⟩
theorem copy_nil (h : NilI w p) : Calls Tryz.prog 52 #[p] w fun e w' => e = .returned (.pointer none) ∧ w = w' := by
  have hm := made_nil h
  clear h
  go_enter Tryz.func52, Tryz.ntmps52
  go_wp2_with fail
  refine hm.mono ?_
  rintro e w1 ⟨rfl, rfl⟩
  go_wp2
  go_ret
  exact ⟨rfl, rfl⟩
theorem new_nil (h : NilI w p) : Calls Tryz.prog 27 #[p, .slice none 0 0] w fun e w' => e = .returned (.tuple #[.pointer none, .int .i64 1]) ∧ w = w' := by
  have hm := copy_nil h
  clear h
  go_enter Tryz.func27, Tryz.ntmps27
  go_wp2_with fail
  refine hm.mono ?_
  rintro e w1 ⟨rfl, rfl⟩
  go_wp2
  go_ret2
  exact ⟨rfl, rfl⟩
set_option maxRecDepth 20000 in
set_option maxHeartbeats 1000000 in
theorem read_nil (h : NilN w p) (s : ByteArray) : Calls Tryz.prog 43 #[p, .string s] w fun e w' => e = .returned (.tuple #[.slice none 0 0, .slice none 0 0, .int .i64 0, .int .i64 1]) ∧ Below w.heap.size w w' := by
  have hb4 : Below w.heap.size w (fourC w) := ((((Below.refl _ w).alloc (Nat.le_refl _) _).alloc (by simp) _).alloc (by simp; omega) _).alloc (by simp; omega) _
  have hv := nvalid_nil (h.below hb4)
  have HV := Lib.hid hv; have HB4 := Lib.hid hb4
  clear hv h
  unfold fourC at HV hb4
  refine (callsIn_wide (n := 4)).1 ?_
  refine callsIn_of_wp_marks Tryz.func43 rfl trivial ?_ rfl
  simp only [Tryz.ntmps43, List.size_toArray, List.length_cons, List.length_nil, Nat.reduceAdd, Nat.reduceSub, Array.replicate_succ, Array.replicate_zero, List.push_toArray, List.append_toArray, List.nil_append, List.cons_append]
  gi_wp2_with (refine ⟨trivial, ?_⟩; gi_at_call 31; refine callsIn_wide.2 (HV.out.mono ?_); rintro e w' ⟨rfl, rfl⟩)
  obtain ⟨W4, hW4⟩ : ∃ W4, (((w.alloc (.cells #[.slice none 0 0] 27)).alloc (.cells #[.slice none 0 0] 22)).alloc (.cells #[.int .i64 0] 3)).alloc (.cells #[.int .i64 1] 33) = W4 := ⟨_, rfl⟩
  obtain ⟨⟨k0, k1, k2, k3⟩, hz, hb⟩ := four_blks w _ _ _ _ _ _ _ _ hW4
  rw [hW4]
  have c0 := k0.cell 0; have c1 := k1.cell 0; have c2 := k2.cell 0; have c3 := k3.cell 0
  simp only [List.getElem?_toArray, List.getElem?_cons_zero] at c0 c1 c2 c3
  exact ⟨.tuple #[.slice none 0 0, .slice none 0 0, .int .i64 0, .int .i64 1], by simp [results, Tryz.results43, go_sem, c0, c1, c2, c3], rfl, hb⟩
set_option maxRecDepth 20000 in
theorem parse_nil (h : NilN w p) (s : ByteArray) : Calls Tryz.prog 14 #[p, .string s] w fun e w' => e = .returned (.tuple #[.slice none 0 0, .int .i64 0, .int .i64 1]) ∧ Below w.heap.size w w' := by
  have hc := read_nil h s
  have HC := Lib.hid hc
  clear hc h
  go_enter Tryz.func14, Tryz.ntmps14
  go_wp2_with fail
  refine HC.out.mono ?_
  rintro e w1 ⟨rfl, hb⟩
  have HB := Lib.hid hb
  clear hb
  go_wp2
  go_ret3
  exact ⟨rfl, HB.out⟩
set_option maxRecDepth 20000 in
theorem split_nil (h : NilN w p) (s : ByteArray) : Calls Tryz.prog 16 #[p, .string s] w fun e w' => e = .returned (.tuple #[.slice none 0 0, .int .i64 0, .int .i64 1]) ∧ Below w.heap.size w w' := by
  have hc := read_nil h s
  have HC := Lib.hid hc
  clear hc h
  go_enter Tryz.func16, Tryz.ntmps16
  go_wp2_with fail
  refine HC.out.mono ?_
  rintro e w1 ⟨rfl, hb⟩
  have HB := Lib.hid hb
  clear hb
  go_wp2
  go_ret3
  exact ⟨rfl, HB.out⟩
set_option maxRecDepth 20000 in
theorem print_nil (h : NilN w p) (v : Value) : Calls Tryz.prog 10 #[p, v] w fun e w' => e = .returned (.tuple #[.string ⟨#[]⟩, .int .i64 1]) ∧ Below w.heap.size w w' := by
  have hc := nvalid_nil h
  have HC := Lib.hid hc
  clear hc h
  go_enter Tryz.func10, Tryz.ntmps10
  go_wp2_with fail
  refine HC.out.mono ?_
  rintro e w1 ⟨rfl, rfl⟩
  go_wp2
  go_ret2
  exact ⟨rfl, Below.refl _ _⟩
set_option maxRecDepth 20000 in
theorem normal_nil (h : NilN w p) (s : ByteArray) : Calls Tryz.prog 20 #[p, .string s] w fun e w' => e = .returned (.tuple #[.string ⟨#[]⟩, .int .i64 1]) ∧ Below w.heap.size w w' := by
  have hc := parse_nil h s
  have HC := Lib.hid hc
  clear hc h
  go_enter Tryz.func20, Tryz.ntmps20
  go_wp2_with fail
  refine HC.out.mono ?_
  rintro e w1 ⟨rfl, hb⟩
  have HB := Lib.hid hb
  clear hb
  go_wp2
  go_ret2
  exact ⟨rfl, HB.out⟩
set_option maxRecDepth 20000 in
theorem same_nil (h : NilN w p) (s t : ByteArray) : Calls Tryz.prog 22 #[p, .string s, .string t] w fun e w' => e = .returned (.bool false) ∧ Below w.heap.size w w' := by
  have hc := parse_nil h s
  have hc2 := fun W (hW : Below w.heap.size w W) => parse_nil (h.below hW) t
  have HC := Lib.hid hc; have HC2 := Lib.hid hc2
  clear hc hc2 h
  go_enter Tryz.func22, Tryz.ntmps22
  go_wp2_with fail
  refine HC.out.mono ?_
  rintro e w1 ⟨rfl, hb⟩
  have HB := Lib.hid hb
  clear hb
  go_wp2_with fail
  refine (HC2.out _ HB.out).mono ?_
  rintro e w2 ⟨rfl, hb2⟩
  have HB2 := Lib.hid (HB.out.trans (hb2.mono HB.out.size))
  clear hb2
  go_wp2
  go_ret
  exact ⟨rfl, HB2.out⟩
set_option maxRecDepth 20000 in
theorem sound_nil (h : NilN w p) (s : Snd) : Calls Tryz.prog 12 #[p, sndV s] w fun e w' => e = .returned (.tuple #[.string ⟨#[]⟩, .bool false]) ∧ Below w.heap.size w w' := by
  rcases h with rfl | ⟨q, rfl, h1⟩
  · have hb0 : Below w.heap.size w ((w.alloc (.cells #[.pointer none] 32)).alloc (.cells #[.int .u32 s.1, .int .u32 s.2] 30)) := ((Below.refl _ w).alloc (Nat.le_refl _) _).alloc (by simp) _
    have hv := nvalid_nil (w := (w.alloc (.cells #[.pointer none] 32)).alloc (.cells #[.int .u32 s.1, .int .u32 s.2] 30)) (p := .pointer none) (.inl rfl)
    have HV := Lib.hid hv; have HB := Lib.hid hb0
    clear hv hb0
    go_enter Tryz.func12, Tryz.ntmps12
    go_wp2_with fail
    refine HV.out.mono ?_
    rintro e w1 ⟨rfl, rfl⟩
    go_wp2
    go_ret2
    exact ⟨rfl, HB.out⟩
  · have hb0 : Below w.heap.size w ((w.alloc (.cells #[wptr q] 32)).alloc (.cells #[.int .u32 s.1, .int .u32 s.2] 30)) := ((Below.refl _ w).alloc (Nat.le_refl _) _).alloc (by simp) _
    have hv := nvalid_nil (w := (w.alloc (.cells #[wptr q] 32)).alloc (.cells #[.int .u32 s.1, .int .u32 s.2] 30)) (p := wptr q) (NilN.below (.inr ⟨q, rfl, h1⟩) hb0)
    have HV := Lib.hid hv; have HB := Lib.hid hb0
    clear hv hb0
    go_enter Tryz.func12, Tryz.ntmps12
    go_wp2_with fail
    refine HV.out.mono ?_
    rintro e w1 ⟨rfl, rfl⟩
    go_wp2
    go_ret2
    exact ⟨rfl, HB.out⟩
end
end Go.Proofs.YtohggdfplmlinaaGreatDoor
namespace Go.Proofs.YtohggdfplmlinaaGreatDoor
open Go.RowKit Go.Lib

/-- The notation of a case, or none. -/
def ProgN (b : Bool) (w : World) (S : Nat → Prop) (p : Value) (fs : List ByteArray) (L : List Nam) (ms : List Mk) (N : Nat) : Prop := (b = true ∧ ∃ g, p = wptr g ∧ NotN w S g fs L ms N) ∨ (b = false ∧ p = .pointer none)
/-- The reference's notation of a case, or none. -/
def RefN (b : Bool) (w : World) (S : Nat → Prop) (p : Value) (fs : List ByteArray) (L : List Nam) (ms : List Mk) : Prop := (b = true ∧ ∃ g, p = wptr g ∧ RNot w S g fs L ms) ∨ (b = false ∧ p = .pointer none)
def readB (b : Bool) (L : List Nam) (ms : List Mk) (t : List UInt8) : Rs := if b = true then readR L ms t else ⟨[], [], 0, 1⟩
def printB (b : Bool) (L : List Nam) (ms : List Mk) (ws : List Snd) : List UInt8 × Int := if b = true then printR L ms ws else ([], 1)
def soundB (b : Bool) (L : List Nam) (ms : List Mk) (x : Snd) : List UInt8 := if b = true then bestS L ms x else []
def normalB (b : Bool) (L : List Nam) (ms : List Mk) (t : List UInt8) : List UInt8 × Int := if b = true then normalR L ms t else ([], 1)
def sameB (b : Bool) (L : List Nam) (ms : List Mk) (t u : List UInt8) : Bool := b && sameR L ms t u
section
variable {b : Bool} {w w' : World} {S T : Nat → Prop} {p : Value} {fs : List ByteArray} {L xs : List Nam} {ms : List Mk} {N : Nat}
theorem made2 {e : Ending} (h : MadePost w fs xs ms e w') : ∃ p x, e = .returned (.tuple #[p, .int .i64 x]) ∧ Below w.heap.size w w' ∧ ProgN (decide (caseE fs ms = 0)) w' (NewB w w') p fs (addsL fs.length [] xs) ms 0 := by
  obtain ⟨hb, ⟨hE, g, rfl, hn⟩ | ⟨hE, rfl⟩⟩ := h
  · exact ⟨_, _, rfl, hb, .inl ⟨decide_eq_true hE, g, rfl, hn⟩⟩
  · exact ⟨_, _, rfl, hb, .inr ⟨decide_eq_false hE, rfl⟩⟩
theorem rmade2 {e : Ending} (h : RMadePost w fs xs ms e w') : ∃ p x, e = .returned (.tuple #[p, .int .i64 x]) ∧ Below w.heap.size w w' ∧ RefN (decide (caseE fs ms = 0)) w' (NewB w w') p fs (addsL fs.length [] xs) ms := by
  obtain ⟨hb, ⟨hE, g, rfl, hn⟩ | ⟨hE, rfl⟩⟩ := h
  · exact ⟨_, _, rfl, hb, .inl ⟨decide_eq_true hE, g, rfl, hn⟩⟩
  · exact ⟨_, _, rfl, hb, .inr ⟨decide_eq_false hE, rfl⟩⟩
theorem ProgN.below (h : ProgN b w S p fs L ms N) (hb : Below w.heap.size w w') : ProgN b w' S p fs L ms N := by
  rcases h with ⟨h1, g, h2, h3⟩ | h
  · exact .inl ⟨h1, g, h2, h3.below hb⟩
  · exact .inr h
theorem RefN.chg (h : RefN b w S p fs L ms) (hc : ChgS T w w') (ht : ∀ k, S k → ¬ T k) : RefN b w' S p fs L ms := by
  rcases h with ⟨h1, g, h2, h3⟩ | h
  · exact .inl ⟨h1, g, h2, h3.chg hc ht⟩
  · exact .inr h
theorem RefN.below (h : RefN b w S p fs L ms) (hb : Below w.heap.size w w') : RefN b w' S p fs L ms := h.chg (T := fun _ => False) (.of_below hb) (fun _ _ h => h)
theorem parsePost_nil {e : Ending} (he : e = .returned (.tuple #[.slice none 0 0, .int .i64 0, .int .i64 1])) (hb : Below w.heap.size w w') : ParsePost w ⟨[], [], 0, 1⟩ e w' := ⟨_, he, World.ownsRow_nil _ _ _ _, hb⟩
theorem splitPost_nil {e : Ending} (he : e = .returned (.tuple #[.slice none 0 0, .int .i64 0, .int .i64 1])) (hb : Below w.heap.size w w') : SplitPost w ⟨[], [], 0, 1⟩ e w' := ⟨_, he, World.ownsRow_nil _ _ _ _, hb⟩
theorem prog_parse (h : ProgN b w S p fs L ms N) (s : ByteArray) (hs : s.size ≤ maxLen) : Calls Tryz.prog 14 #[p, .string s] w (ParsePost w (readB b L ms (bs s))) := by
  rcases h with ⟨rfl, g, rfl, h⟩ | ⟨rfl, rfl⟩
  · exact parse_any s ⟨N, h⟩ hs
  · exact (parse_nil (.inl rfl) s).mono fun e w' h => parsePost_nil h.1 h.2
theorem prog_split (h : ProgN b w S p fs L ms N) (s : ByteArray) (hs : s.size ≤ maxLen) : Calls Tryz.prog 16 #[p, .string s] w (SplitPost w (readB b L ms (bs s))) := by
  rcases h with ⟨rfl, g, rfl, h⟩ | ⟨rfl, rfl⟩
  · exact split_any s ⟨N, h⟩ hs
  · exact (split_nil (.inl rfl) s).mono fun e w' h => splitPost_nil h.1 h.2
theorem ref_parse (h : RefN b w S p fs L ms) (s : ByteArray) (hs : s.size ≤ maxLen) : Calls Tryz.prog 15 #[p, .string s] w (ParsePost w (readB b L ms (bs s))) := by
  rcases h with ⟨rfl, g, rfl, h⟩ | ⟨rfl, rfl⟩
  · exact rparse_n s h hs
  · exact (rparse_nil s).mono fun e w' h => parsePost_nil h.1 (h.2 ▸ Below.refl _ _)
theorem ref_split (h : RefN b w S p fs L ms) (s : ByteArray) (hs : s.size ≤ maxLen) : Calls Tryz.prog 17 #[p, .string s] w (SplitPost w (readB b L ms (bs s))) := by
  rcases h with ⟨rfl, g, rfl, h⟩ | ⟨rfl, rfl⟩
  · exact rsplit_n s h hs
  · exact (rsplit_nil s).mono fun e w' h => splitPost_nil h.1 (h.2 ▸ Below.refl _ _)
theorem prog_print (A : Option Addr) (n c : Nat) (ws : List Snd) (h : ProgN b w S p fs L ms N) (hS : ∀ k, S k → k < w.heap.size) (hr : RowS w T 2 A n (ws.flatMap sndC)) (hT : ∀ k, T k → ¬ S k) (hn : n ≤ c) (hc : c ≤ maxLen) (hok : ∀ s ∈ ws, ok32 s) (hN : N < 1000000 - 40) :
    Calls Tryz.prog 10 #[p, .slice A n c] w fun e w' => e = .returned (.tuple #[.string (asB (printB b L ms ws).1), .int .i64 (printB b L ms ws).2]) ∧ ProgN b w' S p fs L ms (N + 32) ∧ ChgS S w w' := by
  rcases h with ⟨rfl, g, rfl, h⟩ | ⟨rfl, rfl⟩
  · exact (print_any A n c ws T h hS hr hT hn hc hok hN).mono fun e w' h => ⟨h.1, .inl ⟨rfl, g, rfl, h.2.1⟩, h.2.2⟩
  · exact (print_nil (.inl rfl) _).mono fun e w' h => ⟨h.1, .inr ⟨rfl, rfl⟩, .of_below h.2⟩
theorem ref_print (A : Option Addr) (n c : Nat) (ws : List Snd) (h : RefN b w S p fs L ms) (hr : Reads w w.heap.size 2 A n (ws.flatMap sndC)) (hn : n ≤ c) (hc : c ≤ maxLen) (hok : ∀ s ∈ ws, ok32 s) :
    Calls Tryz.prog 11 #[p, .slice A n c] w (RPrintPost w (printB b L ms ws)) := by
  rcases h with ⟨rfl, g, rfl, h⟩ | ⟨rfl, rfl⟩
  · exact rprint_any A n c ws h hr hn hc hok
  · exact (rprint_nil A n c).mono fun e w' h => ⟨h.1, h.2 ▸ Below.refl _ _⟩
theorem prog_sound (s : Snd) (h : ProgN b w S p fs L ms N) (hS : ∀ k, S k → k < w.heap.size) (hs : ok32 s) (hN : N < 1000000) :
    Calls Tryz.prog 12 #[p, sndV s] w fun e w' => e = .returned (.tuple #[.string (asB (soundB b L ms s)), .bool (decide (soundB b L ms s ≠ []))]) ∧ ProgN b w' S p fs L ms (N + 1) ∧ ChgS S w w' := by
  rcases h with ⟨rfl, g, rfl, h⟩ | ⟨rfl, rfl⟩
  · exact (sound_any s h hS hs hN).mono fun e w' h => ⟨h.1, .inl ⟨rfl, g, rfl, h.2.1⟩, h.2.2⟩
  · exact (sound_nil (.inl rfl) s).mono fun e w' h => ⟨h.1, .inr ⟨rfl, rfl⟩, .of_below h.2⟩
theorem ref_sound (s : Snd) (h : RefN b w S p fs L ms) :
    Calls Tryz.prog 13 #[p, sndV s] w fun e w' => e = .returned (.tuple #[.string (asB (soundB b L ms s)), .bool (decide (soundB b L ms s ≠ []))]) ∧ Below w.heap.size w w' := by
  rcases h with ⟨rfl, g, rfl, h⟩ | ⟨rfl, rfl⟩
  · exact rsound_any s h
  · exact rsound_nil s
theorem prog_normal (s : ByteArray) (h : ProgN b w S p fs L ms N) (hS : ∀ k, S k → k < w.heap.size) (hs : s.size ≤ maxLen) (hN : N < 1000000 - 40) :
    Calls Tryz.prog 20 #[p, .string s] w fun e w' => e = .returned (.tuple #[.string (asB (normalB b L ms (bs s)).1), .int .i64 (normalB b L ms (bs s)).2]) ∧ ProgN b w' S p fs L ms (N + 32) ∧ ChgS S w w' := by
  rcases h with ⟨rfl, g, rfl, h⟩ | ⟨rfl, rfl⟩
  · exact (normal_any s h hS hs hN).mono fun e w' h => ⟨h.1, .inl ⟨rfl, g, rfl, h.2.1⟩, h.2.2⟩
  · exact (normal_nil (.inl rfl) s).mono fun e w' h => ⟨h.1, .inr ⟨rfl, rfl⟩, .of_below h.2⟩
theorem ref_normal (s : ByteArray) (h : RefN b w S p fs L ms) (hs : s.size ≤ maxLen) : Calls Tryz.prog 21 #[p, .string s] w (RPrintPost w (normalB b L ms (bs s))) := by
  rcases h with ⟨rfl, g, rfl, h⟩ | ⟨rfl, rfl⟩
  · exact rnormal_n s h hs
  · exact (rnormal_nil s).mono fun e w' h => ⟨h.1, h.2 ▸ Below.refl _ _⟩
theorem prog_same (s t : ByteArray) (h : ProgN b w S p fs L ms N) (hs : s.size ≤ maxLen) (ht : t.size ≤ maxLen) :
    Calls Tryz.prog 22 #[p, .string s, .string t] w fun e w' => e = .returned (.bool (sameB b L ms (bs s) (bs t))) ∧ Below w.heap.size w w' := by
  rcases h with ⟨rfl, g, rfl, h⟩ | ⟨rfl, rfl⟩
  · exact same_any s t ⟨N, h⟩ hs ht
  · exact same_nil (.inl rfl) s t
theorem ref_same (s t : ByteArray) (h : RefN b w S p fs L ms) (hs : s.size ≤ maxLen) (ht : t.size ≤ maxLen) :
    Calls Tryz.prog 23 #[p, .string s, .string t] w fun e w' => e = .returned (.bool (sameB b L ms (bs s) (bs t))) ∧ Below w.heap.size w w' := by
  rcases h with ⟨rfl, g, rfl, h⟩ | ⟨rfl, rfl⟩
  · exact rsame_n s t h hs ht
  · exact (rsame_nil s t).mono fun e w' h => ⟨h.1, h.2 ▸ Below.refl _ _⟩
end
set_option maxRecDepth 20000 in
set_option maxHeartbeats 1000000 in
theorem texts_same (A A' : Option Addr) (n c c' B : Nat) (ts : List (List UInt8)) (w : World) (ha : Reads w B 1 A n (ts.map fun t => .string (asB t))) (hb : Reads w B 1 A' n (ts.map fun t => .string (asB t))) (hB : B ≤ w.heap.size) (hn : n ≤ maxLen) :
    Calls Tryz.prog 19 #[.slice A n c, .slice A' n c'] w fun e w' => e = .returned (.bool true) ∧ Below w.heap.size w w' := by
  have HA := Lib.hid ha; have HB := Lib.hid hb
  unfold maxLen at hn
  clear ha hb
  go_enter Tryz.func19, Tryz.ntmps19
  go_wp2
  go_loopw [5] (fun i wr => ∃ k : Nat, k ≤ n ∧ i = .int .i64 k ∧ Below w.heap.size w wr) (fun i _ => n - (RowKit.intOf i).toNat)
  case atStart => exact ⟨0, by omega, rfl, Below.refl _ _⟩
  case round =>
    obtain ⟨k, hk, rfl, hbw⟩ := hrel
    by_cases hlt : k < n
    · have hkI : (k : Int) < (n : Int) := by omega
      have hk0 : (0 : Int) ≤ (k : Int) := by omega
      obtain ⟨ad, u, rfl, had, hu, e0⟩ := (HA.out.below (hbw.mono hB)).at_ hlt
      obtain ⟨ad', u', rfl, had', hu', e0'⟩ := (HB.out.below (hbw.mono hB)).at_ hlt
      obtain rfl : u = u' := Option.some.inj (hu.symm.trans hu')
      rw [List.getElem?_map] at hu
      obtain ⟨t, -, rfl⟩ := Option.map_eq_some_iff.1 hu
      clear hu hu'
      generalize asB t = x at *
      have hq : (x.toList == x.toList) = true := beq_self_eq_true _
      have HBW := Lib.hid hbw
      clear hbw
      go_wp2
      go_quiet (fail)
      go_wp2
      go_roundw
      case rel => exact ⟨k + 1, by omega, by go_num, bdrewN HBW.out _⟩
      case measure => simp [RowKit.intOf]; omega
    · obtain rfl : k = n := by omega
      go_wp2
      go_ret
      exact ⟨rfl, hbw⟩
end Go.Proofs.YtohggdfplmlinaaGreatDoor
