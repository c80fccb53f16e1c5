/-
 layer 43: the writer's number, count, sound, flag. Conditions: numbers of 32 bits; a list of the reach.
-/
import Derived.Test.YtmepaeahchiglaaGreatDoorSq
import Derived.Test.YtmepaeahchiglaaGreatDoorZdaa
import Derived.Lib.AppendStr
set_option maxRecDepth 20000
set_option maxHeartbeats 4000000
namespace Go.Proofs.YtmepaeahchiglaaGreatDoor
open Go.RowKit Go.Lib
theorem uX : ∀ (k n : Nat), (numK k n).length ≤ k
 | 0, _ => Nat.le_refl _
 | k + 1, n => by
   unfold numK; split
   ·simp
   ·simpa using uX k (n / 128)
theorem bG (n : Nat) : (numB n).length ≤ 5 := uX 5 n
abbrev af (g : Nat) : Value := .pointer (some ⟨g, 0, none⟩)
theorem pO (w : World) (base g n : Nat) (xs : List Nat) (h : Wr w base g xs) (hn : n < 4294967296) (hx : xs.length + 5 ≤ CAP) :
 Calls Tryz.prog 90 #[af g, .int .u32 n] w fun e w' => e = .returned (.tuple #[]) ∧ Wr w' base g (xs ++ numB n) ∧ WStep g w w' := by
 obtain ⟨i0, hi, hz0, hz1, hz2⟩ := info_parts (show (Tryz.prog.info? 5).map (fun i => (i.zero, i.size, i.bytes)) = some (some (.int .u8 0), 1, 1) by kernel_rfl)
 unfold CAP at hx
 have HH := qh h
 clear h
 go_enter Tryz.func90, Tryz.ntmps90
 go_wp2
 go_loopw [1] (fun i wr => ∃ m j : Nat, ∃ zs : List Nat, i = .int .u32 m ∧ m < 4294967296 ∧ zs.length + j = 4 ∧ m < 128 ^ (j + 1) ∧ zs ++ numK (j + 1) m = numB n ∧ Wr wr base g (xs ++ zs) ∧ WStep g w wr) (fun i _ => (RowKit.intOf i).toNat)
 case atStart => exact ⟨n, 4, [], rfl, hn, rfl, Nat.lt_of_lt_of_le hn (by decide), rfl, by rw [List.append_nil]; exact HH.out, WStep.refl _ _⟩
 case round =>
  obtain ⟨m, j, zs, rfl, hm, hzl, Vy, hzs, hwr, aF⟩ := hrel
  have hlen : (xs ++ zs).length ≤ 140737488351231 := by rw [List.length_append]; omega
  obtain ⟨v, b1, b2, b3⟩ := id hwr
  have hc := b1.cell 0
  have hf := b1.frozen 0
  simp only [gq2] at hc
  have hgl := b1.lt
  have hne : v.ownBlock ≠ some g := own_blk_ne b3 b1 (by decide)
  by_cases hlt : 128 ≤ m
  ·have WN : (128 : Int) ≤ m := by omega
   have hl7 := low7 (n := m)
   have hrn := reads_new wr 5 [bv (m % 128 + 128)]
   have HZ := qh hzs; have zK := qh hwr; have bL := qh aF; have HC := qh hc; have HB1 := qh b1; have HB3 := qh b3; have dR := qh hrn; have N8 := qh hne; have Yg := qh Vy
   clear hzs hwr aF b1 b3 hrn hne Vy
   go_wp2_with (at_builtin; refine wpList_append_any _ rfl _ _ 92 rfl base 5 i0 (.int .u8 0) 1 1 Tryz.underlying92 hi hz0 hz1 hz2 rfl (by decide) _ _ _ rfl (HB3.out.alloc _) _ _ _ _ [bv (m % 128 + 128)] rfl dR.out (by simp [Value.oneCell']) (by unfold maxLen; omega) (by omega) (by simp; omega) ?_; intro v' w3 ai ag bK; have hb3 : Blk w3 g 92 #[v] := (HB1.out.alloc _).grown ag (fun e => N8.out e.symm); have hc3 : w3.cell? ⟨g, 0, none⟩ = some v := (by simpa using hb3.cell 0); have hf3 := hb3.frozen 0; have hres := wr_one (ys := [m % 128 + 128]) zK.out HC.out ai ag bK; have bT := qh hres; clear hres hb3 bK ag; obtain ⟨A', c', rfl, _, _⟩ := ownsRow_form ai; have bD := qh ai; clear ai)
   clear hl7
   go_roundw
   case rel =>
    cases j with
    | zero => have := Yg.out; rw [Nat.zero_add, Nat.pow_one] at this; omega
    | succ j =>
      have hr := bT.out
      rw [List.length_append] at hr
      have hz := HZ.out
      rw [numB_step (by omega)] at hz
      refine ⟨m / 128, j, zs ++ [m % 128 + 128], by rfl, by omega, by rw [List.length_append, List.length_singleton]; omega, ?_, by rw [List.append_assoc]; exact hz, ?_, bL.out.trans hr.2⟩
      ·have := Yg.out; rw [Nat.pow_succ] at this; omega
      ·rw [← List.append_assoc]; exact hr.1
   case measure => simp [RowKit.intOf]; omega
  ·have WN : ¬ (128 : Int) ≤ m := by omega
   have hw8 : (m : Int) % 256 = m := by omega
   have hrn := reads_new wr 5 [bv m]
   have HZ := qh hzs; have zK := qh hwr; have bL := qh aF; have HC := qh hc; have HB1 := qh b1; have HB3 := qh b3; have dR := qh hrn; have N8 := qh hne; have Yg := qh Vy
   clear hzs hwr aF b1 b3 hrn hne Vy
   go_wp2_with (at_builtin; refine wpList_append_any _ rfl _ _ 92 rfl base 5 i0 (.int .u8 0) 1 1 Tryz.underlying92 hi hz0 hz1 hz2 rfl (by decide) _ _ _ rfl (HB3.out.alloc _) _ _ _ _ [bv m] rfl dR.out (by simp [Value.oneCell']) (by unfold maxLen; omega) (by omega) (by simp; omega) ?_; intro v' w3 ai ag bK; have hb3 : Blk w3 g 92 #[v] := (HB1.out.alloc _).grown ag (fun e => N8.out e.symm); have hc3 : w3.cell? ⟨g, 0, none⟩ = some v := (by simpa using hb3.cell 0); have hf3 := hb3.frozen 0; have hres := wr_one (ys := [m]) zK.out HC.out ai ag bK; have bT := qh hres; clear hres hb3 bK ag; obtain ⟨A', c', rfl, _, _⟩ := ownsRow_form ai; have bD := qh ai; clear ai)
   go_end0
   have hr := bT.out
   rw [List.length_append] at hr
   have hz := HZ.out
   rw [numB_last (by omega)] at hz
   exact ⟨rfl, by rw [← hz, ← List.append_assoc]; exact hr.1, bL.out.trans hr.2⟩
theorem iG (w : World) (base g : Nat) (n : Nat) (xs : List Nat) (h : Wr w base g xs) (hn : n < 4294967296) (hx : xs.length + 5 ≤ CAP) :
 Calls Tryz.prog 93 #[af g, .int .i64 n] w fun e w' => e = .returned (.tuple #[]) ∧ Wr w' base g (xs ++ numB n) ∧ WStep g w w' := by
 have hc := pO w base g n xs h hn hx
 have hw : (n : Int) % 4294967296 = n := by omega
 clear h hx
 go_enter Tryz.func93, Tryz.ntmps93
 go_wp2_with fail
 refine hc.mono ?_
 rintro e w' ⟨rfl, h1, h2⟩
 go_wp2
 go_end0
 exact ⟨rfl, h1, h2⟩
theorem mG (s : Snd) : (sndB s).length ≤ 10 := by
 show (numB s.1 ++ numB s.2).length ≤ 10
 rw [List.length_append]
 have := bG s.1
 have := bG s.2
 omega
abbrev gL (s : Snd) : List Value := [.int .u32 s.1, .int .u32 s.2]
abbrev jy (s : Snd) : Value := .agg #[.int .u32 s.1, .int .u32 s.2]
theorem qK (w : World) (base g : Nat) (s : Snd) (xs : List Nat) (h : Wr w base g xs) (hs : ok32 s) (hx : xs.length + 10 ≤ CAP) :
 Calls Tryz.prog 78 #[af g, jy s] w fun e w' => e = .returned (.tuple #[]) ∧ Wr w' base g (xs ++ sndB s) ∧ WStep g w w' := by
 obtain ⟨a, b⟩ := s
 obtain ⟨ha, hb⟩ := hs
 have hB := Blk.new w 55 #[.int .u32 a, .int .u32 b]
 have h1 := h.alloc (.cells #[.int .u32 a, .int .u32 b] 55)
 have aF := (WStep.refl g w).alloc h.lt (.cells #[.int .u32 a, .int .u32 b] 55)
 have hgl := h.lt
 show Calls _ _ _ _ fun e w' => e = .returned (.tuple #[]) ∧ Wr w' base g (xs ++ (numB a ++ numB b)) ∧ WStep g w w'
 have hl := bG a
 have hc1 := pO _ base g a xs h1 ha (by omega)
 have hc2 := fun W (hW : Wr W base g (xs ++ numB a)) => pO W base g b (xs ++ numB a) hW hb (by rw [List.length_append]; omega)
 have HB := qh hB; have H1 := qh h1; have bL := qh aF; have ig := qh hc2
 clear hB h1 aF hc2 h hx
 go_enter Tryz.func78, Tryz.ntmps78
 go_wp2_with fail
 refine hc1.mono ?_
 rintro e w1 ⟨rfl, h2, h3⟩
 have hb1 := h3.blk H1.out HB.out (by decide) (by omega)
 have hc := hb1.cell 1
 simp only [gq2] at hc
 have H2 := qh h2; have H3 := qh h3
 clear h2 h3 hb1
 go_wp2_with fail
 refine (ig.out _ H2.out).mono ?_
 rintro e w2 ⟨rfl, h4, h5⟩
 go_wp2
 go_end0
 exact ⟨rfl, by rw [← List.append_assoc]; exact h4, (bL.out.trans H3.out).trans h5⟩
def NN (b : Bool) : List Nat := numB (if b then 1 else 0)
theorem Kh (w : World) (base g : Nat) (b : Bool) (xs : List Nat) (h : Wr w base g xs) (hx : xs.length + 5 ≤ CAP) :
 Calls Tryz.prog 151 #[af g, .bool b] w fun e w' => e = .returned (.tuple #[]) ∧ Wr w' base g (xs ++ NN b) ∧ WStep g w w' := by
 cases b
 ·have hc := iG w base g 0 xs h (by decide) hx
  clear h hx
  go_enter Tryz.func151, Tryz.ntmps151
  go_wp2_with fail
  refine hc.mono ?_
  rintro e w' ⟨rfl, h1, h2⟩
  go_wp2
  go_end0
  exact ⟨rfl, h1, h2⟩
 ·have hc := iG w base g 1 xs h (by decide) hx
  clear h hx
  go_enter Tryz.func151, Tryz.ntmps151
  go_wp2_with fail
  refine hc.mono ?_
  rintro e w' ⟨rfl, h1, h2⟩
  go_wp2
  go_end0
  exact ⟨rfl, h1, h2⟩
section
variable {P : Program} (w : World)
theorem wS (base : Nat) (t u ty e : TypeId) (i : TypeInfo) (ht : P.underlying t = some (.slice e)) (hu : P.underlying u = some .string) (hi : P.info? e = some i) (hz : i.zero = some (.int .u8 0))
 (hsize : i.size = 1) (hby : i.bytes = 1) (v : Value) (n : Nat) (xs : List Value) (hown : w.ownsRow base e 1 v n xs) (s : ByteArray)
 (h63 : n + s.size ≤ 140737488351232) (hbase : base ≤ w.heap.size) :
 ∃ v' w', (Builtin.append_ #[t, u] ty #[v, .string s]).run P w = .ok v' w' ∧ w'.ownsRow base e 1 v' (n + s.size) (xs ++ strCells s) ∧ w.grownBy w' v.ownBlock ∧ (v'.ownBlock = v.ownBlock ∨ v'.ownBlock = some w.heap.size) := by
 obtain ⟨v', w', hr, h2, h3, h4⟩ := run_append_own_string (P := P) w base t u ty e i ht hu hi hz hsize hby v n xs hown s (by unfold maxLen; omega) (by omega) hbase
 refine ⟨v', w', hr, h2, h3, ?_⟩
 rcases hown.2 with ⟨rfl, rfl⟩ | ⟨g, cap, cur, rfl, hbg, hg, hnc, hcm, hcs, htake⟩
 ·by_cases hm : s.size = 0
  ·rw [h4.2 ⟨rfl, hm⟩]; exact .inl rfl
  ·have hr2 := run_append_nil_string (P := P) w t u ty e i (.int .u8 0) ht hu hi hz s (by omega) (by omega) (by rw [hby]; omega)
   rw [hr] at hr2
   injection hr2 with hv _
   rw [hv]; exact .inr rfl
 ·by_cases hroom : n + s.size ≤ cap
  ·have hr2 := run_append_room_string (P := P) w t u ty e i ht hu hi hsize g n cap cur hg s hroom (by rw [Nat.mul_one] at hcs; omega)
   rw [hr] at hr2
   injection hr2 with hv _
   rw [hv]; exact .inl rfl
  ·have hr2 := run_append_grow_string (P := P) w t u ty e i (.int .u8 0) ht hu hi hz ⟨g, 0, none⟩ n cap xs (by rw [hsize]; exact hown.1) (hown.cells (g := g) rfl) s (by omega) (by omega) (growslice_fits (by omega) (by rw [hby]; omega))
   rw [hr] at hr2
   injection hr2 with hv _
   rw [hv]; exact .inr rfl
theorem qB {ops : Array Oper} {rest : List Oper} {o : Oper} {a : Act} {Q : Exit → Act → World → Prop} (hgd : o.guard = none) (sl x : Operand) (t u : TypeId)
 (ho : o.op = .call { callee := .builtin .append, args := #[sl, x], argTypes := #[t, u] })
 (base : Nat) (e : TypeId) (i : TypeInfo) (ht : P.underlying t = some (.slice e)) (hu : P.underlying u = some .string) (hi : P.info? e = some i) (hz : i.zero = some (.int .u8 0))
 (hsize : i.size = 1) (hby : i.bytes = 1) (v : Value) (n : Nat) (xs : List Value) (hs : a.eval sl = v) (hown : w.ownsRow base e 1 v n xs) (s : ByteArray) (hx : a.eval x = .string s)
 (h63 : n + s.size ≤ 140737488351232) (hbase : base ≤ w.heap.size)
 (h : ∀ v' w', w'.ownsRow base e 1 v' (n + s.size) (xs ++ strCells s) → w.grownBy w' v.ownBlock → (v'.ownBlock = v.ownBlock ∨ v'.ownBlock = some w.heap.size) → wpList P ops Q rest (a.put o.dst v') w') : wpList P ops Q (o :: rest) a w := by
 refine wpList_plain hgd fun K hK => ?_
 obtain ⟨v', w', hr, h2, h3, h4⟩ := wS (P := P) w base t u o.type e i ht hu hi hz hsize hby v n xs hown s h63 hbase
 unfold Oper.wp execOp
 simp only [ho, resolve, invoke, builtin, Sem.run_bind, Sem.run_pure, Result.andThen_ok, List.map_toArray, List.map_cons, List.map_nil, hs, hx, hr]
 exact hK _ _ (h v' w' h2 h3 h4)
end
def qL (s : ByteArray) : List Nat := s.data.toList.map UInt8.toNat
theorem uo (s : ByteArray) : (qL s).length = s.size := by unfold qL; rw [List.length_map]; rfl
theorem strCells_eq (s : ByteArray) : strCells s = (qL s).map bv := by unfold strCells qL; rw [List.map_map]; rfl
def xH (s : ByteArray) : List Nat := numB s.size ++ qL s
theorem IE (w : World) (base g : Nat) (s : ByteArray) (xs : List Nat) (h : Wr w base g xs) (hs : s.size < 4294967296) (hx : xs.length + 5 + s.size ≤ CAP) :
 Calls Tryz.prog 85 #[af g, .string s] w fun e w' => e = .returned (.tuple #[]) ∧ Wr w' base g (xs ++ xH s) ∧ WStep g w w' := by
 obtain ⟨i0, hi, hz0, hz1, hz2⟩ := info_parts (show (Tryz.prog.info? 5).map (fun i => (i.zero, i.size, i.bytes)) = some (some (.int .u8 0), 1, 1) by kernel_rfl)
 have hl := bG s.size
 have hc1 := iG w base g s.size xs h hs (by omega)
 unfold CAP at hx
 have HH := qh h
 clear h
 go_enter Tryz.func85, Tryz.ntmps85
 go_wp2_with fail
 refine hc1.mono ?_
 rintro e w1 ⟨rfl, h1, h2⟩
 have hlen : (xs ++ numB s.size).length = xs.length + (numB s.size).length := List.length_append
 obtain ⟨v, b1, b2, b3⟩ := id h1
 have hc := b1.cell 0
 have hf := b1.frozen 0
 simp only [gq2] at hc
 have hgl := b1.lt
 have hne : v.ownBlock ≠ some g := own_blk_ne b3 b1 (by decide)
 have zK := qh h1; have bL := qh h2; have HC := qh hc; have HB1 := qh b1; have HB3 := qh b3; have N8 := qh hne; have HL := qh hlen
 clear h1 h2 b1 b3 hne hc1 hlen
 generalize (numB s.size).length = L at *
 go_wp2_with (at_builtin; refine qB _ rfl _ _ 92 9 rfl base 5 i0 Tryz.underlying92 Tryz.underlying9 hi hz0 hz1 hz2 _ _ _ rfl HB3.out s rfl (by rw [HL.out]; omega) (by omega) ?_; intro v' w3 ai ag bK; have hb3 : Blk w3 g 92 #[v] := (HB1.out).grown ag (fun e => N8.out e.symm); have hc3 : w3.cell? ⟨g, 0, none⟩ = some v := (by simpa using hb3.cell 0); have hf3 := hb3.frozen 0; have hres := wr_append (ys := qL s) zK.out HC.out (WStep.refl g w1) (by unfold rowOf; rw [HC.out]; rfl) (by rw [uo, ← strCells_eq]; exact ai) ag bK rfl; have bT := qh hres; clear hres hb3 bK ag; obtain ⟨A', c', rfl, _, _⟩ := ownsRow_form ai; have bD := qh ai; clear ai)
 go_end0
 have hr := bT.out
 rw [List.length_append] at hr
 exact ⟨rfl, by unfold xH; rw [← List.append_assoc]; exact hr.1, bL.out.trans hr.2⟩
theorem aH (a : Addr) (n j : Nat) : a.add (n + (j + 1)) = ⟨(a.add n).block, (a.add n).off + (j + 1), none⟩ := by
 unfold Addr.add
 by_cases h : n = 0
 ·subst h; simp
 ·rw [if_neg h, if_neg (by omega)]; simp [Nat.add_assoc]
theorem Reads.iD {α : Type} [Inhabited α] {w : World} {B n k : Nat} {A : Option Addr} {l : List α} {f : α → List Value} (h : Reads w B k A n (l.flatMap f)) (hk : ∀ x, (f x).length = k) (k0 : 0 < k) : l.length = n := by
 have := h.1
 rw [flatMap_len f k hk] at this
 exact Nat.eq_of_mul_eq_mul_right k0 this
theorem Reads.row {α : Type} [Inhabited α] {w : World} {B n k i : Nat} {A : Option Addr} {l : List α} {f : α → List Value} (h : Reads w B k A n (l.flatMap f)) (hk : ∀ x, (f x).length = k) (k0 : 0 < k) (hi : i < l.length) :
 ∃ ad, A = some ad ∧ ad.block < B ∧ ∀ j u, (f l[i])[j]? = some u → w.cell? (ad.add (i * k + j)) = some u := by
 have hl := h.iD hk k0
 obtain ⟨ad, e, hb, hc⟩ := h.2 (by omega)
 refine ⟨ad, e, hb, fun j u hu => hc _ u ?_⟩
 have hj : j < k := by rw [← hk l[i]]; exact (List.getElem?_eq_some_iff.1 hu).1
 have hlt : i * k + j < l.length * k := by
  have : i * k + k ≤ l.length * k := by rw [← Nat.succ_mul]; exact Nat.mul_le_mul_right _ hi
  omega
 rw [flatMap_get f k hk l _ hlt, show (i * k + j) / k = i by rw [Nat.mul_comm, Nat.mul_add_div k0, Nat.div_eq_of_lt hj]; omega, show (i * k + j) % k = j by rw [Nat.mul_comm, Nat.mul_add_mod, Nat.mod_eq_of_lt hj], getElem!_pos l i hi, getElem!_pos (f l[i]) j (by rw [hk]; exact hj), ← hu, List.getElem?_eq_getElem]
theorem fA {w : World} {B n i : Nat} {A : Option Addr} {l : List Snd} (h : Reads w B 2 A n (l.flatMap gL)) (hi : i < l.length) :
 ∃ ad, A = some ad ∧ ad.block < B ∧ w.cell? (ad.add (i * 2)) = some (.int .u32 l[i].1) ∧ w.cell? ⟨(ad.add (i * 2)).block, (ad.add (i * 2)).off + 1, none⟩ = some (.int .u32 l[i].2) := by
 obtain ⟨ad, e, hb, hc⟩ := h.row (fun _ => rfl) (by decide) hi
 exact ⟨ad, e, hb, hc 0 _ rfl, by rw [← aH ad (i * 2) 0]; exact hc 1 _ rfl⟩
theorem nM {α : Type} {put : α → List Nat} {m : Nat} (h : ∀ x, (put x).length ≤ m) (l : List α) : (l.flatMap put).length ≤ m * l.length := by
 induction l with
 | nil => simp
 | cons x l ih =>
   rw [List.flatMap_cons, List.length_append, List.length_cons, Nat.mul_add]
   have := h x
   omega
theorem qD {α : Type} (put : α → List Nat) (l : List α) (k : Nat) (hk : k < l.length) : (l.take (k + 1)).flatMap put = (l.take k).flatMap put ++ put l[k] := by
 rw [List.take_succ_eq_append_getElem hk, List.flatMap_append]; simp
theorem vX (w : World) (base g B : Nat) (A : Option Addr) (n c : Nat) (ws : List Snd) (xs : List Nat) (h : Wr w base g xs) (hr : Reads w B 2 A n (ws.flatMap gL)) (hB : B ≤ base) (hn : n < 4294967296) (hok : ∀ s ∈ ws, ok32 s) (hx : xs.length + 5 + 10 * n ≤ CAP) :
 Calls Tryz.prog 77 #[af g, .slice A n c, .func (.func 78) #[af g] #[]] w fun e w' => e = .returned (.tuple #[]) ∧ Wr w' base g (xs ++ wordB ws) ∧ WStep g w w' := by
 have hwl := hr.iD (fun _ => rfl) (by decide)
 have hc1 := iG w base g n xs h hn (by omega)
 have hl := bG n
 have HH := qh h; have HR := qh hr; have wG := qh hwl; have gW := qh hok
 clear h hr hwl hok
 go_enter Tryz.func77, Tryz.ntmps77
 go_wp2_with fail
 refine hc1.mono ?_
 rintro e w1 ⟨rfl, h1, h2⟩
 have HW := qh h1; have bL := qh h2
 clear h1 h2 hc1
 go_wp2
 go_loopw [14] (fun i wr => ∃ k : Nat, k ≤ n ∧ i = .int .i64 k ∧ Wr wr base g (xs ++ numB n ++ (ws.take k).flatMap sndB) ∧ WStep g w wr) (fun i _ => n - (RowKit.intOf i).toNat)
 case atStart => exact ⟨0, by omega, rfl, by simpa using HW.out, bL.out⟩
 case round =>
  obtain ⟨k, hk, rfl, hwr, aF⟩ := hrel
  have zK := qh hwr; have dz := qh aF
  clear hwr aF
  by_cases hlt : k < n
  ·have bB : k < ws.length := by rw [wG.out]; exact hlt
   have cB : (k : Int) < (n : Int) := by omega
   obtain ⟨ad, rfl, had, hc0, hc1⟩ := fA (dz.out.reads HH.out HR.out hB) bB
   go_wp2_with fail
   have hlen : (xs ++ numB n ++ (ws.take k).flatMap sndB).length + 10 ≤ CAP := by
    have := nM mG (ws.take k)
    rw [List.length_append, List.length_append]
    rw [List.length_take, wG.out] at this
    omega
   refine (qK _ base g ws[k] _ (zK.out.alloc _) (gW.out _ (List.getElem_mem bB)) hlen).mono ?_
   rintro e w2 ⟨rfl, h3, h4⟩
   have H3 := qh h3; have H4 := qh h4
   clear h3 h4
   go_wp2
   go_roundw
   case rel => exact ⟨k + 1, by omega, by go_num, by rw [qD sndB ws k bB, ← List.append_assoc]; exact H3.out, (dz.out.alloc zK.out.lt _).trans H4.out⟩
   case measure => simp [RowKit.intOf]; omega
  ·obtain rfl : k = n := by omega
   go_wp2
   go_end0
   refine ⟨rfl, ?_, dz.out⟩
   have := zK.out
   rw [List.take_of_length_le (by rw [wG.out]; exact Nat.le_refl _), List.append_assoc] at this
   show Wr wr base g (xs ++ (numB ws.length ++ ws.flatMap sndB))
   rw [wG.out]; exact this
def ax (s : Snd) : Bool := decide (s.1 &&& s.2 = 0 ∧ s.1 ||| s.2 < 16777216)
theorem jT {s : Snd} (h1 : s.1 &&& s.2 = 0) (h2 : s.1 ||| s.2 < 16777216) : ax s = true := decide_eq_true ⟨h1, h2⟩
theorem ll {s : Snd} (h : ¬ s.1 &&& s.2 = 0) : ax s = false := decide_eq_false fun h' => h h'.1
theorem kG {s : Snd} (h : ¬ s.1 ||| s.2 < 16777216) : ax s = false := decide_eq_false fun h' => h h'.2
theorem tQ (s : Snd) (w : World) (hs : ok32 s) : Calls Tryz.prog 79 #[jy s] w fun e w' => e = .returned (.bool (ax s)) ∧ Below w.heap.size w w' := by
 have e1 := u32_and_nat s.1 s.2 hs.1 hs.2
 have e2 := u32_or_nat s.1 s.2 hs.1 hs.2
 have h32 : s.1 ||| s.2 < 4294967296 := Nat.or_lt_two_pow (n := 32) hs.1 hs.2
 obtain ⟨r, hr⟩ : ∃ r, ax s = r := ⟨_, rfl⟩
 rw [hr]
 by_cases h1 : s.1 &&& s.2 = 0
 ·by_cases h2 : s.1 ||| s.2 < 16777216
  ·rw [jT h1 h2] at hr
   subst hr
   obtain ⟨a, b⟩ := s
   simp only [] at *
   rw [h1] at e1
   generalize a ||| b = y at *
   have vJ : (y : Int) / 16777216 = 0 := by omega
   clear h1 hs
   go_enter Tryz.func79, Tryz.ntmps79
   go_wp2
   go_ret
   exact ⟨rfl, (Below.refl _ _).alloc (Nat.le_refl _) _⟩
  ·rw [kG h2] at hr
   subst hr
   obtain ⟨a, b⟩ := s
   simp only [] at *
   rw [h1] at e1
   generalize a ||| b = y at *
   have vJ : ((y : Int) / 16777216 == 0) = false := by rw [beq_eq_false_iff_ne]; omega
   clear h1 hs
   go_enter Tryz.func79, Tryz.ntmps79
   go_wp2
   go_ret
   exact ⟨rfl, (Below.refl _ _).alloc (Nat.le_refl _) _⟩
 ·rw [ll h1] at hr
  subst hr
  obtain ⟨a, b⟩ := s
  simp only [] at *
  generalize a &&& b = x at *
  have yz : ((x : Int) == 0) = false := by rw [beq_eq_false_iff_ne]; omega
  clear h1 hs
  go_enter Tryz.func79, Tryz.ntmps79
  go_wp2
  go_ret
  exact ⟨rfl, (Below.refl _ _).alloc (Nat.le_refl _) _⟩
def bF (ws : List Snd) : Int := if 32 < ws.length then 11 else if ws.all ax then 0 else 14
theorem iI (A : Option Addr) (n c B : Nat) (ws : List Snd) (w : World) (hr : Reads w B 2 A n (ws.flatMap gL)) (hB : B ≤ w.heap.size) (hn : n ≤ maxLen) (hok : ∀ s ∈ ws, ok32 s) :
 Calls Tryz.prog 26 #[.slice A n c] w fun e w' => e = .returned (.int .i64 (bF ws)) ∧ Below w.heap.size w w' := by
 unfold maxLen at hn
 have hwl := hr.iD (fun _ => rfl) (by decide)
 obtain ⟨r, aU⟩ : ∃ r, bF ws = r := ⟨_, rfl⟩
 rw [aU]
 unfold bF at aU
 rw [hwl] at aU
 have dA := qh aU; have HR := qh hr; have wG := qh hwl; have gW := qh hok
 clear hr hwl hok aU
 by_cases h32 : 32 < n
 ·have OX : (32 : Int) < n := by omega
  go_enter Tryz.func26, Tryz.ntmps26
  go_wp2
  go_ret
  exact ⟨by rw [← dA.out, if_pos h32]; rfl, Below.refl _ _⟩
 ·have OX : ¬ (32 : Int) < n := by omega
  go_enter Tryz.func26, Tryz.ntmps26
  go_wp2
  go_loopw [10] (fun i wr => ∃ k : Nat, k ≤ n ∧ i = .int .i64 k ∧ (ws.take k).all ax = true ∧ Below w.heap.size w wr) (fun i _ => n - (RowKit.intOf i).toNat)
  case atStart => exact ⟨0, by omega, rfl, by simp, Below.refl _ _⟩
  case round =>
   obtain ⟨k, hk, rfl, aI, hb⟩ := hrel
   have bf := qh aI; have HB := qh hb
   clear aI hb
   by_cases hlt : k < n
   ·have bB : k < ws.length := by rw [wG.out]; exact hlt
    have cB : (k : Int) < (n : Int) := by omega
    obtain ⟨ad, rfl, had, hc0, hc1⟩ := fA (HR.out.below (HB.out.mono hB)) bB
    have aF : (ws.take (k + 1)).all ax = ((ws.take k).all ax && ax ws[k]) := by rw [List.take_succ_eq_append_getElem bB, List.all_append]; simp
    have bL := qh aF
    have hmem := List.getElem_mem bB
    clear aF
    cases hv : ax ws[k]
    ·have hmem' : ¬ (ws.all ax = true) := fun h => by rw [List.all_eq_true.1 h _ hmem] at hv; cases hv
     have HM := qh hmem'; have HV := qh hv
     have sN := gW.out _ hmem
     clear hmem' hv hmem
     generalize ws[k] = s at *
     go_wp2_with fail
     refine (tQ s _ sN).mono ?_
     rw [HV.out]
     rintro e w2 ⟨rfl, hb2⟩
     have HB2 := qh hb2
     clear hb2
     go_wp2
     go_ret
     exact ⟨by rw [← dA.out, if_neg h32, if_neg HM.out]; rfl, (HB.out.alloc HB.out.size _).trans (HB2.out.mono (by have := HB.out.size; simp; omega))⟩
    ·have HV := qh hv
     have sN := gW.out _ hmem
     clear hv hmem
     generalize ws[k] = s at *
     go_wp2_with fail
     refine (tQ s _ sN).mono ?_
     rw [HV.out]
     rintro e w2 ⟨rfl, hb2⟩
     have HB2 := qh hb2
     clear hb2
     go_wp2
     go_roundw
     case rel => exact ⟨k + 1, by omega, by go_num, by rw [bL.out, bf.out, HV.out]; rfl, (HB.out.alloc HB.out.size _).trans (HB2.out.mono (by have := HB.out.size; simp; omega))⟩
     case measure => simp [RowKit.intOf]; omega
   ·obtain rfl : k = n := by omega
    go_wp2
    go_ret
    have := bf.out
    rw [List.take_of_length_le (by rw [wG.out]; exact Nat.le_refl _)] at this
    exact ⟨by rw [← dA.out, if_neg h32, if_pos this]; rfl, HB.out⟩
end Go.Proofs.YtmepaeahchiglaaGreatDoor
namespace Go.Proofs.YtmepaeahchiglaaGreatDoor
inductive Pt where
 | mk (k : Int) (s : Snd) (neg : Bool) (lo hi : Int) (l : List Pt)
mutual
def ptSize : Pt → Nat
 | .mk _ _ _ _ _ l => 1 + ptSizes l
def ptSizes : List Pt → Nat
 | [] => 0
 | p :: l => ptSize p + ptSizes l
end
theorem dK (k : Int) (s : Snd) (neg : Bool) (lo hi : Int) (l : List Pt) : ptSize (.mk k s neg lo hi l) = 1 + ptSizes l := by rw [ptSize]
theorem bO : ptSizes [] = 0 := by rw [ptSizes]
theorem aR (p : Pt) (l : List Pt) : ptSizes (p :: l) = ptSize p + ptSizes l := by rw [ptSizes]
theorem oF (p : Pt) : 0 < ptSize p := by
 obtain ⟨k, s, neg, lo, hi, l⟩ := p
 rw [dK]; omega
theorem eY (a b : List Pt) : ptSizes (a ++ b) = ptSizes a + ptSizes b := by
 induction a with
 | nil => rw [List.nil_append, bO, Nat.zero_add]
 | cons p l ih => rw [List.cons_append, aR, aR, ih, Nat.add_assoc]
theorem jV (l : List Pt) : l.length ≤ ptSizes l := by
 induction l with
 | nil => exact Nat.zero_le _
 | cons p l ih => rw [aR, List.length_cons]; have := oF p; omega
theorem oG {p : Pt} {l : List Pt} (h : p ∈ l) : ptSize p ≤ ptSizes l := by
 induction l with
 | nil => cases h
 | cons q l ih =>
   rw [aR]
   rcases List.mem_cons.1 h with rfl | h
   ·omega
   ·have := ih h; omega
theorem ze (l : List Pt) (k : Nat) : ptSizes (l.take k) ≤ ptSizes l := by
 have := eY (l.take k) (l.drop k)
 rw [List.take_append_drop] at this
 omega
def bu (k : Int) (s : Snd) (neg : Bool) (lo hi : Int) (n : Nat) : Bool :=
 if k = 1 then decide (lo = 0 ∧ hi = 0 ∧ n = 0) && ax s
 else decide (s = (0, 0)) && !neg && (if k = 0 ∨ k = 2 ∨ k = 6 then decide (lo = 0 ∧ hi = 0 ∧ n = 0) else if k = 3 ∨ k = 4 then decide (lo = 0 ∧ hi = 0) else if k = 5 then decide (n = 1 ∧ 0 ≤ lo ∧ lo ≤ 32 ∧ (hi = -1 ∨ (lo ≤ hi ∧ hi ≤ 32))) else false)
mutual
def sG : Pt → Bool
 | .mk k s neg lo hi l => bu k s neg lo hi l.length && fK l
def fK : List Pt → Bool
 | [] => true
 | p :: l => sG p && fK l
end
theorem sZ (k : Int) (s : Snd) (neg : Bool) (lo hi : Int) (l : List Pt) : sG (.mk k s neg lo hi l) = (bu k s neg lo hi l.length && fK l) := by rw [sG]
theorem iy : fK [] = true := by rw [fK]
theorem dS (p : Pt) (l : List Pt) : fK (p :: l) = (sG p && fK l) := by rw [fK]
theorem gM (a b : List Pt) : fK (a ++ b) = (fK a && fK b) := by
 induction a with
 | nil => rw [List.nil_append, iy, Bool.true_and]
 | cons p l ih => rw [List.cons_append, dS, dS, ih, Bool.and_assoc]
theorem qP {p : Pt} {l : List Pt} (h : p ∈ l) (hl : fK l = true) : sG p = true := by
 induction l with
 | nil => cases h
 | cons q l ih =>
   rw [dS, Bool.and_eq_true] at hl
   rcases List.mem_cons.1 h with rfl | h
   ·exact hl.1
   ·exact ih h hl.2
def eF (p : Pt) : Bool := sG p && decide (ptSize p ≤ 40)
mutual
def lv : Pt → List Nat
 | .mk k s neg lo hi l => numB k.toNat ++ (if k = 1 then sndB s ++ numB (if neg then 1 else 0) else if k = 3 ∨ k = 4 then numB l.length ++ gD l else if k = 5 then numB lo.toNat ++ (numB (hi + 1).toNat ++ gD l) else [])
def gD : List Pt → List Nat
 | [] => []
 | p :: l => lv p ++ gD l
end
theorem pJ (k : Int) (s : Snd) (neg : Bool) (lo hi : Int) (l : List Pt) :
 lv (.mk k s neg lo hi l) = numB k.toNat ++ (if k = 1 then sndB s ++ numB (if neg then 1 else 0) else if k = 3 ∨ k = 4 then numB l.length ++ gD l else if k = 5 then numB lo.toNat ++ (numB (hi + 1).toNat ++ gD l) else []) := by rw [lv]
theorem nE : gD [] = [] := by rw [gD]
theorem oI (p : Pt) (l : List Pt) : gD (p :: l) = lv p ++ gD l := by rw [gD]
theorem uP (l : List Pt) : gD l = l.flatMap lv := by
 induction l with
 | nil => rw [nE]; rfl
 | cons p l ih => rw [oI, ih]; rfl
theorem zi {k : Int} {s : Snd} {neg : Bool} {lo hi : Int} {n : Nat} (h : bu k s neg lo hi n = true) :
 (k = 1 ∧ lo = 0 ∧ hi = 0 ∧ n = 0) ∨ ((k = 0 ∨ k = 2 ∨ k = 6) ∧ n = 0) ∨ (k = 3 ∨ k = 4) ∨ (k = 5 ∧ n = 1 ∧ 0 ≤ lo ∧ lo ≤ 32 ∧ -1 ≤ hi ∧ hi ≤ 32) := by
 unfold bu at h
 by_cases h1 : k = 1
 ·rw [if_pos h1, Bool.and_eq_true, decide_eq_true_iff] at h
  exact .inl ⟨h1, h.1⟩
 ·rw [if_neg h1, Bool.and_eq_true, Bool.and_eq_true] at h
  obtain ⟨_, h⟩ := h
  by_cases h2 : k = 0 ∨ k = 2 ∨ k = 6
  ·rw [if_pos h2, decide_eq_true_iff] at h
   exact .inr (.inl ⟨h2, h.2.2⟩)
  ·rw [if_neg h2] at h
   by_cases h3 : k = 3 ∨ k = 4
   ·exact .inr (.inr (.inl h3))
   ·rw [if_neg h3] at h
    by_cases h5 : k = 5
    ·rw [if_pos h5, decide_eq_true_iff] at h
     refine .inr (.inr (.inr ⟨h5, h.1, h.2.1, h.2.2.1, ?_⟩))
     rcases h.2.2.2 with h | h <;> omega
    ·rw [if_neg h5] at h; cases h
mutual
theorem uR : ∀ p : Pt, (lv p).length ≤ 20 * ptSize p
 | .mk k s neg lo hi l => by
   rw [pJ, dK, List.length_append]
   have h1 := qU l
   have n1 : ∀ n, (numB n).length ≤ 5 := fun n => uX 5 n
   have h2 := n1 k.toNat
   have hs : (sndB s).length ≤ 10 := by
    show (numB s.1 ++ numB s.2).length ≤ 10
    rw [List.length_append]
    have := n1 s.1
    have := n1 s.2
    omega
   split
   ·rw [List.length_append]
    have := n1 (if neg then 1 else 0)
    omega
   ·split
    ·rw [List.length_append]
     have := n1 l.length
     omega
    ·split
     ·rw [List.length_append, List.length_append]
      have := n1 lo.toNat
      have := n1 (hi + 1).toNat
      omega
     ·rw [List.length_nil]; omega
theorem qU : ∀ l : List Pt, (gD l).length ≤ 20 * ptSizes l
 | [] => by rw [nE]; exact Nat.zero_le _
 | p :: l => by
   rw [oI, aR, List.length_append]
   have := uR p
   have := qU l
   omega
end
open Go.Lib Go.RowKit
theorem nJ {a b : Nat} : a ||| b < 16777216 ↔ a < 16777216 ∧ b < 16777216 :=
 ⟨fun h => ⟨Nat.lt_of_le_of_lt Nat.left_le_or h, Nat.lt_of_le_of_lt Nat.right_le_or h⟩, fun h => Nat.or_lt_two_pow (n := 24) h.1 h.2⟩
theorem mJ (s : Snd) (w : World) (hs : ok32 s) : Calls Tryz.prog 231 #[jy s] w fun e w' => e = .returned (.bool (ax s)) ∧ Below w.heap.size w w' := by
 have e1 := u32_and_nat s.1 s.2 hs.1 hs.2
 obtain ⟨r, hr⟩ : ∃ r, ax s = r := ⟨_, rfl⟩
 rw [hr]
 by_cases h1 : s.1 &&& s.2 = 0
 ·by_cases h2 : s.1 < 16777216
  ·by_cases h3 : s.2 < 16777216
   ·rw [jT h1 (nJ.2 ⟨h2, h3⟩)] at hr
    subst hr
    obtain ⟨a, b⟩ := s
    simp only [] at *
    rw [h1] at e1
    have vJ : (a : Int) < 16777216 := by omega
    have RU : (b : Int) < 16777216 := by omega
    clear h1 hs
    go_enter Tryz.func231, Tryz.ntmps231
    go_wp2
    go_ret
    exact ⟨rfl, (Below.refl _ _).alloc (Nat.le_refl _) _⟩
   ·rw [kG (fun h => h3 (nJ.1 h).2)] at hr
    subst hr
    obtain ⟨a, b⟩ := s
    simp only [] at *
    rw [h1] at e1
    have vJ : (a : Int) < 16777216 := by omega
    have RU : ¬ (b : Int) < 16777216 := by omega
    clear h1 hs
    go_enter Tryz.func231, Tryz.ntmps231
    go_wp2
    go_ret
    exact ⟨rfl, (Below.refl _ _).alloc (Nat.le_refl _) _⟩
  ·rw [kG (fun h => h2 (nJ.1 h).1)] at hr
   subst hr
   obtain ⟨a, b⟩ := s
   simp only [] at *
   rw [h1] at e1
   have vJ : ¬ (a : Int) < 16777216 := by omega
   clear h1 hs
   go_enter Tryz.func231, Tryz.ntmps231
   go_wp2
   go_ret
   exact ⟨rfl, (Below.refl _ _).alloc (Nat.le_refl _) _⟩
 ·rw [ll h1] at hr
  subst hr
  obtain ⟨a, b⟩ := s
  simp only [] at *
  generalize a &&& b = x at *
  have yz : ((x : Int) == 0) = false := by rw [beq_eq_false_iff_ne]; omega
  clear h1 hs
  go_enter Tryz.func231, Tryz.ntmps231
  go_wp2
  go_ret
  exact ⟨rfl, (Below.refl _ _).alloc (Nat.le_refl _) _⟩
theorem oN (s : Snd) (w : World) (hs : ok32 s) : Calls Tryz.prog 68 #[jy s] w fun e w' => e = .returned (.bool (ax s)) ∧ Below w.heap.size w w' := by
 have e1 := u32_and_nat s.1 s.2 hs.1 hs.2
 have e2 := u32_or_nat s.1 s.2 hs.1 hs.2
 obtain ⟨r, hr⟩ : ∃ r, ax s = r := ⟨_, rfl⟩
 rw [hr]
 by_cases h1 : s.1 &&& s.2 = 0
 ·by_cases h2 : s.1 ||| s.2 < 16777216
  ·rw [jT h1 h2] at hr
   subst hr
   obtain ⟨a, b⟩ := s
   simp only [] at *
   rw [h1] at e1
   generalize a ||| b = y at *
   have vJ : (y : Int) ≤ 16777215 := by omega
   clear h1 hs
   go_enter Tryz.func68, Tryz.ntmps68
   go_wp2
   go_ret
   exact ⟨rfl, (Below.refl _ _).alloc (Nat.le_refl _) _⟩
  ·rw [kG h2] at hr
   subst hr
   obtain ⟨a, b⟩ := s
   simp only [] at *
   rw [h1] at e1
   generalize a ||| b = y at *
   have vJ : ¬ (y : Int) ≤ 16777215 := by omega
   clear h1 hs
   go_enter Tryz.func68, Tryz.ntmps68
   go_wp2
   go_ret
   exact ⟨rfl, (Below.refl _ _).alloc (Nat.le_refl _) _⟩
 ·rw [ll h1] at hr
  subst hr
  obtain ⟨a, b⟩ := s
  simp only [] at *
  generalize a &&& b = x at *
  have yz : ((x : Int) == 0) = false := by rw [beq_eq_false_iff_ne]; omega
  clear h1 hs
  go_enter Tryz.func68, Tryz.ntmps68
  go_wp2
  go_ret
  exact ⟨rfl, (Below.refl _ _).alloc (Nat.le_refl _) _⟩
theorem lu (s : Snd) (w : World) (hs : ok32 s) : Calls Tryz.prog 191 #[jy s] w fun e w' => e = .returned (.bool (ax s)) ∧ Below w.heap.size w w' := by
 have e1 := u32_and_nat s.1 s.2 hs.1 hs.2
 have e2 := u32_or_nat s.1 s.2 hs.1 hs.2
 have h32 : s.1 ||| s.2 < 4294967296 := Nat.or_lt_two_pow (n := 32) hs.1 hs.2
 obtain ⟨r, hr⟩ : ∃ r, ax s = r := ⟨_, rfl⟩
 rw [hr]
 by_cases h1 : s.1 &&& s.2 = 0
 ·by_cases h2 : s.1 ||| s.2 < 16777216
  ·rw [jT h1 h2] at hr
   subst hr
   obtain ⟨a, b⟩ := s
   simp only [] at *
   rw [h1] at e1
   generalize a ||| b = y at *
   have vJ : (y : Int) / 16777216 = 0 := by omega
   clear h1 hs
   go_enter Tryz.func191, Tryz.ntmps191
   go_wp2
   go_ret
   exact ⟨rfl, (Below.refl _ _).alloc (Nat.le_refl _) _⟩
  ·rw [kG h2] at hr
   subst hr
   obtain ⟨a, b⟩ := s
   simp only [] at *
   rw [h1] at e1
   generalize a ||| b = y at *
   have vJ : ((y : Int) / 16777216 == 0) = false := by rw [beq_eq_false_iff_ne]; omega
   clear h1 hs
   go_enter Tryz.func191, Tryz.ntmps191
   go_wp2
   go_ret
   exact ⟨rfl, (Below.refl _ _).alloc (Nat.le_refl _) _⟩
 ·rw [ll h1] at hr
  subst hr
  obtain ⟨a, b⟩ := s
  simp only [] at *
  generalize a &&& b = x at *
  have yz : ((x : Int) == 0) = false := by rw [beq_eq_false_iff_ne]; omega
  clear h1 hs
  go_enter Tryz.func191, Tryz.ntmps191
  go_wp2
  go_ret
  exact ⟨rfl, (Below.refl _ _).alloc (Nat.le_refl _) _⟩
def lV (s : Snd) (f : Nat) : Bool := !(s.1.testBit f && s.2.testBit f) && !((s.1.testBit f || s.2.testBit f) && decide (24 ≤ f))
theorem qY {n : Nat} (h : n < 4294967296) : n < 16777216 ↔ ∀ f, 24 ≤ f → f < 32 → n.testBit f = false := by
 constructor
 ·intro h' f hf _
  exact Nat.testBit_lt_two_pow (Nat.lt_of_lt_of_le h' (Nat.pow_le_pow_right (by decide) hf : 2 ^ 24 ≤ 2 ^ f))
 ·intro h'
  refine Nat.lt_pow_two_of_testBit (n := 24) n fun i hi => ?_
  rcases Nat.lt_or_ge i 32 with h2 | h2
  ·exact h' i hi h2
  ·exact Nat.testBit_lt_two_pow (Nat.lt_of_lt_of_le h (Nat.pow_le_pow_right (by decide) h2 : 2 ^ 32 ≤ 2 ^ i))
theorem Ab {s : Snd} (hs : ok32 s) : ax s = (List.range 32).all (lV s) := by
 rw [Bool.eq_iff_iff, List.all_eq_true]
 unfold ax
 rw [decide_eq_true_iff, nJ, qY hs.1, qY hs.2]
 constructor
 ·rintro ⟨h1, h2, h3⟩ f hf
  have hf' := List.mem_range.1 hf
  have h4 : (s.1.testBit f && s.2.testBit f) = false := by rw [← Nat.testBit_and, h1, Nat.zero_testBit]
  unfold lV
  rw [h4]
  by_cases h24 : 24 ≤ f
  ·rw [h2 f h24 hf', h3 f h24 hf']; rfl
  ·rw [decide_eq_false h24, Bool.and_false]; rfl
 ·intro h
  have h' : ∀ f, f < 32 → lV s f = true := fun f hf => h f (List.mem_range.2 hf)
  refine ⟨Nat.eq_of_testBit_eq fun f => ?_, fun f h24 h32 => ?_, fun f h24 h32 => ?_⟩
  ·rw [Nat.testBit_and, Nat.zero_testBit]
   rcases Nat.lt_or_ge f 32 with h2 | h2
   ·have := h' f h2
    unfold lV at this
    cases h5 : (s.1.testBit f && s.2.testBit f)
    ·rfl
    ·rw [h5] at this; cases this
   ·rw [Nat.testBit_lt_two_pow (Nat.lt_of_lt_of_le hs.1 (Nat.pow_le_pow_right (by decide) h2 : 2 ^ 32 ≤ 2 ^ f))]; rfl
  ·have := h' f h32
   unfold lV at this
   rw [decide_eq_true h24] at this
   cases h5 : s.1.testBit f
   ·rfl
   ·rw [h5] at this; simp at this
  ·have := h' f h32
   unfold lV at this
   rw [decide_eq_true h24] at this
   cases h5 : s.2.testBit f
   ·rfl
   ·rw [h5] at this; simp at this
end Go.Proofs.YtmepaeahchiglaaGreatDoor
