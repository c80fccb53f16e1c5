/-
  layer 43: the writer's text; a string's bytes behind a list of the call's own, and where the new list lies. Conditions: a list of the reach.
-/
import Derived.Test.YtipfhamhiaeieaaDoorPkWn
import Derived.Lib.AppendStr
namespace Go.Proofs.YtipfhamhiaeieaaDoor
open Go.RowKit Go.Lib

section
variable {P : Program} (w : World)
theorem run_string_at (base : Nat) (t u ty e : TypeId) (i : TypeInfo) (ht : P.underlying t = some (.slice e)) (hu : P.underlying u = some .string) (hi : P.info? e = some i) (hz : i.zero = some (.int .u8 0))
    (hsize : i.size = 1) (hby : i.bytes = 1) (v : Value) (n : Nat) (xs : List Value) (hown : w.ownsRow base e 1 v n xs) (s : ByteArray)
    (h63 : n + s.size ≤ 140737488351232) (hbase : base ≤ w.heap.size) :
    ∃ v' w', (Builtin.append_ #[t, u] ty #[v, .string s]).run P w = .ok v' w' ∧ w'.ownsRow base e 1 v' (n + s.size) (xs ++ strCells s) ∧ w.grownBy w' v.ownBlock ∧ (v'.ownBlock = v.ownBlock ∨ v'.ownBlock = some w.heap.size) := by
  obtain ⟨v', w', hr, h2, h3, h4⟩ := run_append_own_string (P := P) w base t u ty e i ht hu hi hz hsize hby v n xs hown s (by unfold maxLen; omega) (by omega) hbase
  refine ⟨v', w', hr, h2, h3, ?_⟩
  rcases hown.2 with ⟨rfl, rfl⟩ | ⟨g, cap, cur, rfl, hbg, hg, hnc, hcm, hcs, htake⟩
  · by_cases hm : s.size = 0
    · rw [h4.2 ⟨rfl, hm⟩]; exact .inl rfl
    · have hr2 := run_append_nil_string (P := P) w t u ty e i (.int .u8 0) ht hu hi hz s (by omega) (by omega) (by rw [hby]; omega)
      rw [hr] at hr2
      injection hr2 with hv _
      rw [hv]; exact .inr rfl
  · by_cases hroom : n + s.size ≤ cap
    · have hr2 := run_append_room_string (P := P) w t u ty e i ht hu hi hsize g n cap cur hg s hroom (by rw [Nat.mul_one] at hcs; omega)
      rw [hr] at hr2
      injection hr2 with hv _
      rw [hv]; exact .inl rfl
    · have hr2 := run_append_grow_string (P := P) w t u ty e i (.int .u8 0) ht hu hi hz ⟨g, 0, none⟩ n cap xs (by rw [hsize]; exact hown.1) (hown.cells (g := g) rfl) s (by omega) (by omega) (growslice_fits (by omega) (by rw [hby]; omega))
      rw [hr] at hr2
      injection hr2 with hv _
      rw [hv]; exact .inr rfl
theorem wpList_string_at {ops : Array Oper} {rest : List Oper} {o : Oper} {a : Act} {Q : Exit → Act → World → Prop} (hgd : o.guard = none) (sl x : Operand) (t u : TypeId)
    (ho : o.op = .call { callee := .builtin .append, args := #[sl, x], argTypes := #[t, u] })
    (base : Nat) (e : TypeId) (i : TypeInfo) (ht : P.underlying t = some (.slice e)) (hu : P.underlying u = some .string) (hi : P.info? e = some i) (hz : i.zero = some (.int .u8 0))
    (hsize : i.size = 1) (hby : i.bytes = 1) (v : Value) (n : Nat) (xs : List Value) (hs : a.eval sl = v) (hown : w.ownsRow base e 1 v n xs) (s : ByteArray) (hx : a.eval x = .string s)
    (h63 : n + s.size ≤ 140737488351232) (hbase : base ≤ w.heap.size)
    (h : ∀ v' w', w'.ownsRow base e 1 v' (n + s.size) (xs ++ strCells s) → w.grownBy w' v.ownBlock → (v'.ownBlock = v.ownBlock ∨ v'.ownBlock = some w.heap.size) → wpList P ops Q rest (a.put o.dst v') w') : wpList P ops Q (o :: rest) a w := by
  refine wpList_plain hgd fun K hK => ?_
  obtain ⟨v', w', hr, h2, h3, h4⟩ := run_string_at (P := P) w base t u o.type e i ht hu hi hz hsize hby v n xs hown s h63 hbase
  unfold Oper.wp execOp
  simp only [ho, resolve, invoke, builtin, Sem.run_bind, Sem.run_pure, Result.andThen_ok, List.map_toArray, List.map_cons, List.map_nil, hs, hx, hr]
  exact hK _ _ (h v' w' h2 h3 h4)
end
/-- The bytes of a string, as numbers. -/
def sbytes (s : ByteArray) : List Nat := s.data.toList.map UInt8.toNat
theorem sbytes_len (s : ByteArray) : (sbytes s).length = s.size := by unfold sbytes; rw [List.length_map]; rfl
theorem strCells_eq (s : ByteArray) : strCells s = (sbytes s).map bv := by unfold strCells sbytes; rw [List.map_map]; rfl
def textB (s : ByteArray) : List Nat := numB s.size ++ sbytes s
set_option maxRecDepth 20000 in
set_option maxHeartbeats 1000000 in
theorem text_any (w : World) (base g : Nat) (s : ByteArray) (xs : List Nat) (h : Wr w base g xs) (hs : s.size < 4294967296) (hx : xs.length + 5 + s.size ≤ CAP) :
    Calls Tryd.prog 58 #[wptr g, .string s] w fun e w' => e = .returned (.tuple #[]) ∧ Wr w' base g (xs ++ textB s) ∧ WStep g w w' := by
  obtain ⟨i0, hi, hz0, hz1, hz2⟩ := info_parts (show (Tryd.prog.info? 5).map (fun i => (i.zero, i.size, i.bytes)) = some (some (.int .u8 0), 1, 1) by kernel_rfl)
  have hl := numB_len s.size
  have hc1 := count_any w base g s.size xs h hs (by omega)
  unfold CAP at hx
  have HH := Lib.hid h
  clear h
  go_enter Tryd.func58, Tryd.ntmps58
  go_wp2_with fail
  refine hc1.mono ?_
  rintro e w1 ⟨rfl, h1, h2⟩
  have hlen : (xs ++ numB s.size).length = xs.length + (numB s.size).length := List.length_append
  obtain ⟨v, b1, b2, b3⟩ := id h1
  have hc := b1.cell 0
  have hf := b1.frozen 0
  simp only [List.getElem?_toArray, List.getElem?_cons_zero] at hc
  have hgl := b1.lt
  have hne : v.ownBlock ≠ some g := own_blk_ne b3 b1 (by decide)
  have HWR := Lib.hid h1; have HST := Lib.hid h2; have HC := Lib.hid hc; have HB1 := Lib.hid b1; have HB3 := Lib.hid b3; have HNE := Lib.hid hne; have HL := Lib.hid hlen
  clear h1 h2 b1 b3 hne hc1 hlen
  generalize (numB s.size).length = L at *
  go_wp2_with (at_builtin; refine wpList_string_at _ rfl _ _ 62 9 rfl base 5 i0 Tryd.underlying62 Tryd.underlying9 hi hz0 hz1 hz2 _ _ _ rfl HB3.out s rfl (by rw [HL.out]; omega) (by omega) ?_; intro v' w3 hown' hgrow hx'; have hb3 : Blk w3 g 62 #[v] := (HB1.out).grown hgrow (fun e => HNE.out e.symm); have hc3 : w3.cell? ⟨g, 0, none⟩ = some v := (by simpa using hb3.cell 0); have hf3 := hb3.frozen 0; have hres := wr_append (ys := sbytes s) HWR.out HC.out (WStep.refl g w1) (by unfold rowOf; rw [HC.out]; rfl) (by rw [sbytes_len, ← strCells_eq]; exact hown') hgrow hx' rfl; have HRES := Lib.hid hres; clear hres hb3 hx' hgrow; obtain ⟨A', c', rfl, _, _⟩ := ownsRow_form hown'; have HOWN := Lib.hid hown'; clear hown')
  go_end0
  have hr := HRES.out
  rw [List.length_append] at hr
  exact ⟨rfl, by unfold textB; rw [← List.append_assoc]; exact hr.1, HST.out.trans hr.2⟩
end Go.Proofs.YtipfhamhiaeieaaDoor
