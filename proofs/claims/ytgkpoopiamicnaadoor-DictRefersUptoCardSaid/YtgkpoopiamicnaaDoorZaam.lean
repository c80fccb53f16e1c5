/-
  Layer 40: reached, From, Back: the walks. Conditions: a dictionary in memory.
-/
import Derived.Test.YtgkpoopiamicnaaDoorZaal
namespace Go.Proofs.YtgkpoopiamicnaaDoor
open Go.RowKit Go.Lib

section
variable {w : World} {B a g mb : Nat} {hv : Value} {gs : Grps} {S : Nat → Prop} {L : List Art} {f : ByteArray → Option Value}
def ReachedPost (w : World) (L : List Art) (s : ByteArray) (e : Ending) (w' : World) : Prop := ∃ mo n, e = .returned (.map (some mo)) ∧ MapH w' mo n (markF (reachB L s)) ∧ w.heap.size ≤ mo ∧ Below w.heap.size w w'
set_option linter.unusedSimpArgs false in
set_option maxRecDepth 20000 in
set_option maxHeartbeats 4000000 in
theorem reached_any (h : DictM w B a g mb hv gs S L f) (hg : GoodD gs L) (s : ByteArray) (hs : s.size ≤ 140737488351232) :
    Calls Tryd.prog 27 #[wptr g, .string s] w (ReachedPost w L s) := by
  have hF := fun mo b2 b5 b6 hmo => follow_any h hg mo b2 b5 b6 hmo 1024
  have hfr : freeN L (fun _ => false) ≤ 1024 := Nat.le_trans List.countP_le_length (by rw [headsL_len]; exact hg.len)
  have hgl := h.lt
  have hmm := @run_makeMap Tryd.prog
  clear h hg
  have hb2 := Blk.new w 24 #[wptr g]
  have hmo := MapH.made (w.alloc (.cells #[wptr g] 24))
  have hb5 := Blk.new ((w.alloc (.cells #[wptr g] 24)).alloc (.map #[] 0)) 62 #[.map (some (w.heap.size + 1))]
  have hb6 := Blk.new (((w.alloc (.cells #[wptr g] 24)).alloc (.map #[] 0)).alloc (.cells #[.map (some (w.heap.size + 1))] 62)) 91 #[Value.nilFunc]
  obtain ⟨W0, hW0⟩ : ∃ W, (((w.alloc (.cells #[wptr g] 24)).alloc (.map #[] 0)).alloc (.cells #[.map (some (w.heap.size + 1))] 62)).alloc (.cells #[Value.nilFunc] 91) = W := ⟨_, rfl⟩
  have hb0 : Below w.heap.size w W0 := hW0 ▸ ((((Below.refl _ _).alloc (Nat.le_refl _) _).alloc (by simp) _).alloc (by simp; omega) _).alloc (by simp; omega) _
  have ha2 := ((hb2.alloc (.map #[] 0)).alloc (.cells #[.map (some (w.heap.size + 1))] 62)).alloc (.cells #[Value.nilFunc] 91)
  have ha5 := hb5.alloc (.cells #[Value.nilFunc] 91)
  have hmp : MapH W0 (w.heap.size + 1) 0 (fun _ => none) := hW0 ▸ ((by simpa using hmo : MapH _ (w.heap.size + 1) 0 (fun _ => none)).below ((Below.refl _ _).alloc (Nat.le_refl _) _)).below ((Below.refl _ _).alloc (Nat.le_refl _) _)
  rw [hW0] at ha2 ha5 hb6
  simp only [World.size_alloc] at ha2 ha5 hb6
  have c6 := hb6.cell 0; have f6 := hb6.frozen 0
  simp only [List.getElem?_toArray, List.getElem?_cons_zero] at c6
  have hst := run_store Tryd.prog W0 ⟨w.heap.size + 1 + 1 + 1, 0, none⟩ (.func (.func 47) #[] #[wptr w.heap.size, wptr (w.heap.size + 1 + 1), wptr (w.heap.size + 1 + 1 + 1)]) .plain rfl
  simp only [c6, f6, Bool.false_eq_true, ↓reduceIte] at hst
  have h6 := hb6.set_ 0 (.func (.func 47) #[] #[wptr w.heap.size, wptr (w.heap.size + 1 + 1), wptr (w.heap.size + 1 + 1 + 1)])
  simp only [List.setIfInBounds_toArray, List.set_cons_zero] at h6
  have h2 := ha2.far (p := ⟨w.heap.size + 1 + 1 + 1, 0, none⟩) (by simp; omega) (.func (.func 47) #[] #[wptr w.heap.size, wptr (w.heap.size + 1 + 1), wptr (w.heap.size + 1 + 1 + 1)])
  have h5 := ha5.far (p := ⟨w.heap.size + 1 + 1 + 1, 0, none⟩) (by simp) (.func (.func 47) #[] #[wptr w.heap.size, wptr (w.heap.size + 1 + 1), wptr (w.heap.size + 1 + 1 + 1)])
  have hch := (ChgS.refl (fun k => k = w.heap.size + 1 + 1 + 1) W0).setCell (p := ⟨w.heap.size + 1 + 1 + 1, 0, none⟩) (.inl rfl) (.func (.func 47) #[] #[wptr w.heap.size, wptr (w.heap.size + 1 + 1), wptr (w.heap.size + 1 + 1 + 1)])
  have hm := hmp.chgS hch (by omega)
  have hb1 := hb0.trans (hch.below (B := w.heap.size) (fun k hk => by omega) hb0.size)
  obtain ⟨W1, hW1⟩ : ∃ W, W0.setCell ⟨w.heap.size + 1 + 1 + 1, 0, none⟩ (.func (.func 47) #[] #[wptr w.heap.size, wptr (w.heap.size + 1 + 1), wptr (w.heap.size + 1 + 1 + 1)]) = W := ⟨_, rfl⟩
  rw [hW1] at h6 h2 h5 hm hb1 hst
  have hfm : FollowM W1 g (w.heap.size + 1) w.heap.size (w.heap.size + 1 + 1) (w.heap.size + 1 + 1 + 1) 0 L (fun _ => false) := ⟨h2, h5, h6, hm.congr fun s => rfl, by omega⟩
  have c1 := h6.cell 0
  simp only [List.getElem?_toArray, List.getElem?_cons_zero] at c1
  have hcall := hF (w.heap.size + 1) w.heap.size (w.heap.size + 1 + 1) (w.heap.size + 1 + 1 + 1) (by omega) W1 s (fun _ => false) 0 hfr hs hb1 hfm
  have HB1 := Lib.hid hb1
  clear hF hfr hgl hb2 hmo hb5 hb6 hb0 ha2 ha5 hmp h6 h2 h5 hch hm hb1 hfm
  go_enter Tryd.func27, Tryd.ntmps27
  go_wp2_with fail
  refine hcall.mono ?_
  rintro e w1 ⟨rfl, M', n', hok, hfm, hc⟩
  have o1 := hfm.o.cell 0
  simp only [List.getElem?_toArray, List.getElem?_cons_zero] at o1
  have hmm' : MapH w1 (w.heap.size + 1) n' (markF (reachB L s)) := hfm.map.congr fun t => by unfold markF; rw [follow_reach hok t]
  have HM := Lib.hid hmm'; have HB2 := Lib.hid (HB1.out.trans (hc.below (fun k hk => by omega) HB1.out.size))
  clear hok hfm hc hmm'
  go_wp2
  go_ret
  exact ⟨_, n', rfl, HM.out, by omega, HB2.out⟩
end
end Go.Proofs.YtgkpoopiamicnaaDoor
namespace Go.Proofs.YtgkpoopiamicnaaDoor
open Go.RowKit Go.Lib

section
variable {w : World} {B a g mb : Nat} {hv : Value} {gs : Grps} {S : Nat → Prop} {L : List Art} {f : ByteArray → Option Value}
set_option linter.unusedSimpArgs false in
theorem marked_any (x : ByteArray) (hx : x.size ≤ maxLen) (W : World) (b mo n : Nat) (M : ByteArray → Bool) (hb : Blk W b 62 #[.map (some mo)]) (hm : MapH W mo n (markF M)) :
    Calls Tryd.prog 30 #[.string x, wptr b] W fun e W' => e = .returned (.bool (M x)) ∧ Below W.heap.size W W' := by
  have hlm := hm.look1 (T := 62) (E := 4) Tryd.underlying62 (zero_boolV _) x hx
  rw [markF_get] at hlm
  have c0 := hb.cell 0
  simp only [List.getElem?_toArray, List.getElem?_cons_zero] at c0
  clear hb hm
  go_enter Tryd.func30, Tryd.ntmps30
  go_wp2
  go_ret
  exact ⟨rfl, Below.refl _ _⟩
noncomputable def fromL (L : List Art) (s : ByteArray) : List ByteArray := if thereB L s = true then (headsL L).filter (reachB L s) else []
def fromE (L : List Art) (s : ByteArray) : Int := if thereB L s = true then 0 else 5
def FromPost (w : World) (l : List ByteArray) (k : Int) (e : Ending) (w' : World) : Prop := ∃ v, e = .returned (.tuple #[v, .int .i64 k]) ∧ w'.ownsRow w.heap.size 9 1 v l.length (l.map Value.string) ∧ Below w.heap.size w w'
set_option linter.unusedSimpArgs false in
set_option maxRecDepth 20000 in
set_option maxHeartbeats 4000000 in
theorem from_any (h : DictM w B a g mb hv gs S L f) (hg : GoodD gs L) (s : ByteArray) (hs : s.size ≤ 140737488351232) :
    Calls Tryd.prog 11 #[wptr g, .string s] w (FromPost w (fromL L s) (fromE L s)) := by
  have hv1 := fun W (hb : Below w.heap.size w W) => valid_any (h.below hb)
  have hlk := fun W (hb : Below w.heap.size w W) => (h.below hb).look s (by unfold maxLen; omega)
  have hce := fun W (hb : Below w.heap.size w W) => (h.below hb).cells
  have hre := fun W (hb : Below w.heap.size w W) => reached_any (h.below hb) hg s hs
  have hwh := fun W (hb : Below w.heap.size w W) => where_any (h.below hb) hg (reachB L s) 30
  have hsz := hg.hsize
  obtain ⟨cs, hav, hcs⟩ := h.at_ s
  obtain ⟨A1, c1, A2, c2, A3, c3, rfl⟩ := hcs.form
  rw [hav] at hlk
  dsimp only [aggM] at hlk
  obtain ⟨W1, hW1⟩ : ∃ W1, w.alloc (.cells #[.string (artOf L s).head, .slice A1 (artOf L s).word.length c1, .slice A2 (artOf L s).texts.length c2, .slice A3 (artOf L s).see.length c3] 35) = W1 := ⟨_, rfl⟩
  have hb1 : Below w.heap.size w W1 := hW1 ▸ (Below.refl _ _).alloc (Nat.le_refl _) _
  obtain ⟨z0, z1, z2⟩ := hce w (Below.refl _ _)
  have hl := hlk w (Below.refl _ _)
  have hv0 := hv1 w (Below.refl _ _)
  have HRE := Lib.hid (hre W1 hb1); have HWH := Lib.hid hwh; have HSZ := Lib.hid hsz; have HB1 := Lib.hid hb1
  clear h hg hv1 hlk hce hre hwh hav hcs hsz hb1
  generalize (artOf L s).head = h8 at *
  generalize (artOf L s).word.length = n8 at *
  generalize (artOf L s).texts.length = m8 at *
  generalize (artOf L s).see.length = k8 at *
  unfold fromL fromE
  cases htb : thereB L s with
  | false =>
    rw [htb] at hl
    simp only [Bool.false_eq_true, ↓reduceIte]
    go_enter Tryd.func11, Tryd.ntmps11
    go_wp2_with fail
    refine hv0.mono ?_
    rintro e w1 ⟨rfl, rfl⟩
    go_wp2
    go_ret2
    exact ⟨_, rfl, World.ownsRow_nil _ _ _ _, HB1.out⟩
  | true =>
    rw [htb] at hl
    simp only [↓reduceIte]
    go_enter Tryd.func11, Tryd.ntmps11
    go_wp2_with fail
    refine hv0.mono ?_
    rintro e w1 ⟨rfl, rfl⟩
    go_wp2_with fail
    refine HRE.out.mono ?_
    rintro e w2 ⟨mo, n, rfl, hm, hmo, hb2⟩
    have hbk := Blk.new w2 62 #[.map (some mo)]
    have hm2 := hm.below ((Below.refl _ _).alloc (Nat.le_refl _) (.cells #[.map (some mo)] 62))
    have hb3 : Below w.heap.size w (w2.alloc (.cells #[.map (some mo)] 62)) := (HB1.out.trans (hb2.mono HB1.out.size)).alloc (Nat.le_trans HB1.out.size hb2.size) _
    have hcall := HWH.out _ hb3 #[wptr w2.heap.size] (enters_of Tryd.func30 (by kernel_rfl) rfl) (fun W x hW hx => marked_any x (by have := HSZ.out x hx; unfold maxLen; omega) W w2.heap.size mo n (reachB L s) (hbk.below hW hbk.lt) (hm2.below hW))
    have HB3 := Lib.hid hb3
    clear hm hm2 hbk hb2 hb3
    go_wp2_with fail
    refine hcall.mono ?_
    rintro e w3 ⟨v, rfl, ho, hb4⟩
    have HO := Lib.hid ho; have HB4 := Lib.hid hb4
    clear ho hb4
    go_wp2
    go_ret2
    exact ⟨_, rfl, own_mono HO.out HB3.out.size, HB3.out.trans (HB4.out.mono HB3.out.size)⟩
end
end Go.Proofs.YtgkpoopiamicnaaDoor
namespace Go.Proofs.YtgkpoopiamicnaaDoor
open Go.RowKit Go.Lib

theorem beq_ba (s t : ByteArray) : (s.toList == t.toList) = decide (s = t) := by
  rw [Lib.toList_data, Lib.toList_data, Bool.eq_iff_iff, beq_iff_eq, decide_eq_true_iff]
  constructor
  · intro h
    obtain ⟨⟨s⟩⟩ := s
    obtain ⟨⟨t⟩⟩ := t
    have h : s = t := h
    rw [h]
  · rintro rfl
    rfl
/-- The map from heads to what is reached from them. -/
structure CycM (W : World) (ob n : Nat) (F : ByteArray → Option Value) (L : List Art) (l : List ByteArray) : Prop where
  map : MapH W ob n F
  in_ : ∀ t ∈ l, ∃ mo k, F t = some (.map (some mo)) ∧ MapH W mo k (markF (reachB L t)) ∧ ob < mo
theorem CycM.below {W W' : World} {ob n : Nat} {F : ByteArray → Option Value} {L : List Art} {l : List ByteArray} (h : CycM W ob n F L l) (hb : Below W.heap.size W W') : CycM W' ob n F L l :=
  ⟨h.map.below hb, fun t ht => by
    obtain ⟨mo, k, e, hm, hl⟩ := h.in_ t ht
    exact ⟨mo, k, e, hm.below hb, hl⟩⟩
theorem CycM.put {W W1 W2 : World} {ob n n' mo k : Nat} {F : ByteArray → Option Value} {L : List Art} {l : List ByteArray} {t : ByteArray} (h : CycM W ob n F L l) (hb : Below W.heap.size W W1) (hm : MapH W1 mo k (markF (reachB L t))) (hmo : ob < mo)
    (hg : W1.grownBy W2 (some ob)) (h2 : MapH W2 ob n' (fun u => if u = t then some (.map (some mo)) else F u)) : CycM W2 ob n' (fun u => if u = t then some (.map (some mo)) else F u) L (l ++ [t]) :=
  ⟨h2, fun u hu => by
    by_cases e : u = t
    · subst e
      exact ⟨mo, k, by simp, hm.kept hg (by intro e; injection e with e; omega), hmo⟩
    · rw [List.mem_append, List.mem_singleton] at hu
      obtain ⟨mo2, k2, e2, hm2, hl2⟩ := h.in_ u (hu.resolve_right e)
      exact ⟨mo2, k2, by simp only [if_neg e, e2], (hm2.below hb).kept hg (by intro e; injection e with e; omega), hl2⟩⟩
theorem zero_mapV (w : World) : (zeroValue 62).run Tryd.prog w = .ok (.map none) w := by kernel_rfl
/-- Heads that reach each other. -/
noncomputable def both (L : List Art) (s t : ByteArray) : Bool := reachB L s t && reachB L t s
set_option linter.unusedSimpArgs false in
theorem both_any (x s : ByteArray) (hx : x.size ≤ maxLen) (hs : s.size ≤ maxLen) (W : World) (b4 b8 ob n : Nat) (F : ByteArray → Option Value) (L : List Art) (l : List ByteArray) (h : CycM W ob n F L l) (hxl : x ∈ l) (hsl : s ∈ l)
    (h4 : Blk W b4 61 #[.map (some ob)]) (h8 : Blk W b8 9 #[.string s]) :
    Calls Tryd.prog 29 #[.string x, wptr b4, wptr b8] W fun e W' => e = .returned (.bool (both L s x)) ∧ Below W.heap.size W W' := by
  obtain ⟨mo, k, e1, hm1, -⟩ := h.in_ s hsl
  obtain ⟨mx, kx, e2, hm2, -⟩ := h.in_ x hxl
  have hl1 := h.map.look1 (T := 61) (E := 62) Tryd.underlying61 (zero_mapV _) s hs
  have hl2 := h.map.look1 (T := 61) (E := 62) Tryd.underlying61 (zero_mapV _) x hx
  rw [e1] at hl1
  rw [e2] at hl2
  simp only [Option.getD_some] at hl1 hl2
  have hm3 := hm1.look1 (T := 62) (E := 4) Tryd.underlying62 (zero_boolV _) x hx
  have hm4 := hm2.look1 (T := 62) (E := 4) Tryd.underlying62 (zero_boolV _) s hs
  rw [markF_get] at hm3 hm4
  have c4 := h4.cell 0; have c8 := h8.cell 0
  simp only [List.getElem?_toArray, List.getElem?_cons_zero] at c4 c8
  clear h h4 h8 hm1 hm2
  unfold both
  cases h1 : reachB L s x with
  | true =>
    rw [h1] at hm3
    rw [Bool.true_and]
    go_enter Tryd.func29, Tryd.ntmps29
    go_wp2
    go_ret
    exact ⟨rfl, Below.refl _ _⟩
  | false =>
    rw [h1] at hm3
    rw [Bool.false_and]
    go_enter Tryd.func29, Tryd.ntmps29
    go_wp2
    go_ret
    exact ⟨rfl, Below.refl _ _⟩
noncomputable def compOf (L : List Art) (s : ByteArray) : List ByteArray := (headsL L).filter (both L s)
noncomputable def leadB (L : List Art) (s : ByteArray) : Bool := decide ((compOf L s).head? = some s)
noncomputable def cyclesL (L : List Art) (l : List ByteArray) : List (List ByteArray) := (l.filter (leadB L)).map (compOf L)
def CyclesPost (w : World) (l : List (List ByteArray)) (e : Ending) (w' : World) : Prop := ∃ v, e = .returned v ∧ LlF w' (NewS w w') l v ∧ Below w.heap.size w w'
section
variable {w : World} {B a g mb : Nat} {hv : Value} {gs : Grps} {S : Nat → Prop} {L : List Art} {f : ByteArray → Option Value}
set_option linter.unusedSimpArgs false in
set_option maxRecDepth 20000 in
set_option maxHeartbeats 8000000 in
theorem cycles_any (h : DictM w B a g mb hv gs S L f) (hg : GoodD gs L) : Calls Tryd.prog 10 #[wptr g] w (CyclesPost w (cyclesL L (headsL L))) := by
  obtain ⟨i0, hi, hz0, hz1, hz2⟩ := info_parts (show (Tryd.prog.info? 22).map (fun i => (i.zero, i.size, i.bytes)) = some (some (.slice none 0 0), 1, 24) by kernel_rfl)
  have hv1 := valid_any h
  have hce := fun W (hb : Below w.heap.size w W) => (h.below hb).cells
  have hsz := hg.hsize
  have hre := fun W (hb : Below w.heap.size w W) s (hs : s ∈ headsL L) => reached_any (h.below hb) hg s (by have := hsz s hs; omega)
  have hwh := fun W (hb : Below w.heap.size w W) s => where_any (h.below hb) hg (both L s) 29
  obtain ⟨A, c, rfl, h1, h2, hr⟩ := h.heads
  have hlen := hg.len
  have hl0 : (headsL L).length = L.length := headsL_len
  have hmm := @run_makeMap Tryd.prog
  have hb0 := Blk.new (w.alloc (.map #[] 0)) 61 #[.map (some w.heap.size)]
  have hm0 := (MapH.made w).below ((Below.refl _ _).alloc (Nat.le_refl _) (.cells #[.map (some w.heap.size)] 61))
  have hbe0 := ((Below.refl w.heap.size w).alloc (Nat.le_refl _) (.map #[] 0)).alloc (by simp) (.cells #[.map (some w.heap.size)] 61)
  obtain ⟨W0, hW0⟩ : ∃ W, (w.alloc (.map #[] 0)).alloc (.cells #[.map (some w.heap.size)] 61) = W := ⟨_, rfl⟩
  rw [hW0] at hb0 hm0 hbe0
  simp only [World.size_alloc] at hb0
  obtain ⟨z0, z1, z2⟩ := hce W0 hbe0
  have HCE := Lib.hid hce; have HSZ := Lib.hid hsz; have HRE := Lib.hid hre; have HWH := Lib.hid hwh; have HR := Lib.hid hr; have HB0 := Lib.hid hb0; have HM0 := Lib.hid hm0; have HBE0 := Lib.hid hbe0
  have HL0 := Lib.hid hl0
  clear h hg hce hsz hre hwh hr hb0 hm0 hbe0 hl0
  generalize L.length = len at *
  generalize hhl : headsL L = hl at *
  go_enter Tryd.func10, Tryd.ntmps10
  go_wp2_with fail
  refine hv1.mono ?_
  rintro e w1 ⟨rfl, rfl⟩
  go_wp2
  clear z0 z1 z2
  go_loopw [6, 19] (fun _ i wr => ∃ (k n : Nat) (F : ByteArray → Option Value), k ≤ len ∧ i = .int .i64 k ∧ CycM wr w.heap.size n F L (hl.take k) ∧ n ≤ k ∧ Blk wr (w.heap.size + 1) 61 #[.map (some w.heap.size)] ∧ Below w.heap.size w wr) (fun _ i _ => len - (RowKit.intOf i).toNat)
  case atStart => exact ⟨0, 0, fun _ => none, by omega, rfl, ⟨HM0.out, by simp⟩, Nat.le_refl _, HB0.out, HBE0.out⟩
  case round =>
    obtain ⟨k, n, F, hk, rfl, hcm, hnk, hbl, hbe⟩ := hrel
    have HCM := Lib.hid hcm; have HBL := Lib.hid hbl; have HBE := Lib.hid hbe
    have k0 := hbl.cell 0
    simp only [List.getElem?_toArray, List.getElem?_cons_zero] at k0
    clear hcm hbl hbe
    by_cases hlt : k < len
    · have hkl : k < hl.length := by rw [HL0.out]; exact hlt
      have hkI : (k : Int) < (len : Int) := by omega
      obtain ⟨ad, rfl, had, hc⟩ := HR.out.at_ (k := k) hkl
      have hcw := (HBE.out.cell (p := ad.add k) (by rw [block_of_add]; exact had)).trans hc
      have htk : hl.take (k + 1) = hl.take k ++ [hl[k]] := List.take_succ_eq_append_getElem hkl
      have hss := HSZ.out _ (List.getElem_mem hkl)
      have hcall := HRE.out wr.drew HBE.out.drew _ (List.getElem_mem hkl)
      have HTK := Lib.hid htk; have HSS := Lib.hid hss
      have hwk : w.heap.size < wr.heap.size := HCM.out.map.lt
      generalize hl[k] = s at *
      clear hkl hc had htk hss
      go_upto_region 8 with fail
      refine wp_region_held_drew (S := (fun W => W.cell? ⟨w.heap.size + 1, 0, none⟩ = some (.map (some w.heap.size)))) (by kernel_rfl) ?_ (fun hHeld => ?_)
      · (try dsimp only)
        first | exact k3 | exact k2 | exact k0
      refine wpAnyH_take (i := 0) (v := ?_) rfl (by kernel_rfl) (by kernel_rfl) (by kernel_rfl) (fun _ _ _ h => h) (Or.inl ⟨by rfl, ?_⟩) (by assumption) ?_
      rotate_left
      · intro w hSw
        (try dsimp only at hSw)
        go_simp <;> with_reducible rfl
      try simp only [Act.put, List.getElem_toArray, List.getElem_cons_succ, List.getElem_cons_zero, List.setIfInBounds_toArray, List.set_cons_zero, List.set_cons_succ]
      refine wpAnyH_take (i := 1) (v := ?_) rfl (by kernel_rfl) (by kernel_rfl) (by kernel_rfl) (fun _ _ _ h => h) (Or.inl ⟨by rfl, ?_⟩) (by assumption) ?_
      rotate_left
      · intro w hSw
        (try dsimp only at hSw)
        go_simp <;> with_reducible rfl
      try simp only [Act.put, List.getElem_toArray, List.getElem_cons_succ, List.getElem_cons_zero, List.setIfInBounds_toArray, List.set_cons_zero, List.set_cons_succ]
      refine wpAnyH_take (i := 2) (v := ?_) rfl (by kernel_rfl) (by kernel_rfl) (by kernel_rfl) (fun _ _ _ h => h) (Or.inl ⟨by rfl, ?_⟩) (by assumption) ?_
      rotate_left
      · intro w hSw
        (try dsimp only at hSw)
        go_simp <;> with_reducible rfl
      try simp only [Act.put, List.getElem_toArray, List.getElem_cons_succ, List.getElem_cons_zero, List.setIfInBounds_toArray, List.set_cons_zero, List.set_cons_succ]
      refine wpAnyH_take (i := 3) (v := ?_) rfl (by kernel_rfl) (by kernel_rfl) (by kernel_rfl) (fun _ _ _ h => h) (Or.inl ⟨by rfl, ?_⟩) (by assumption) ?_
      rotate_left
      · intro w hSw
        (try dsimp only at hSw)
        go_simp <;> with_reducible rfl
      try simp only [Act.put, List.getElem_toArray, List.getElem_cons_succ, List.getElem_cons_zero, List.setIfInBounds_toArray, List.set_cons_zero, List.set_cons_succ]
      refine wpAnyH_ready (rs := [4]) (by kernel_rfl) (by simp) ?_
      refine AllReadyH.cons rfl (fun K hK => ?_) AllReadyH.nil
      go_simp
      (try go_wp2_with fail)
      refine hcall.mono ?_
      rintro e w2 ⟨mo, m, rfl, hm, hmo, hb2⟩
      have hblk2 := HBL.out.below ((Below.refl wr.heap.size wr).drew.trans (hb2 : Below wr.heap.size wr.drew w2)) HBL.out.lt
      have k2 := hblk2.cell 0
      simp only [List.getElem?_toArray, List.getElem?_cons_zero] at k2
      have hmo2 : wr.heap.size ≤ mo := hmo
      have HM := Lib.hid hm; have HB2 := Lib.hid ((Below.refl wr.heap.size wr).drew.trans (hb2 : Below wr.heap.size wr.drew w2)); have HBL2 := Lib.hid hblk2
      clear hm hb2 hblk2
      (try go_simp)
      refine hK.out _ _ ?_ (fun hHeld' => ?_)
      · (try dsimp only)
        first | exact k3 | exact k2 | exact k0
      clear hK K hHeld
      have hHeld := hHeld'
      clear hHeld'
      refine wpAnyH_ready (rs := [5]) (by kernel_rfl) (by simp) ?_
      refine AllReadyH.cons rfl (fun K hK => ?_) AllReadyH.nil
      refine step_putH rfl 61 62 _ _ _ rfl Tryd.underlying61 w.heap.size n F rfl (HCM.out.map.below HB2.out) (by unfold maxLen; omega) s (by have := HSS.out; unfold maxLen; omega) (.map (some mo)) rfl rfl ?_
      intro w3 hm3 hg3
      have hcm3 := HCM.out.put HB2.out HM.out (by omega) hg3 hm3
      have hbl3 := HBL2.out.grown hg3 (by intro e; injection e with e; omega)
      have k3 := hbl3.cell 0
      simp only [List.getElem?_toArray, List.getElem?_cons_zero] at k3
      have hn3 : (if (F s).isSome then n else n + 1) ≤ k + 1 := by split <;> omega
      have hbe3 := (HBE.out.trans (HB2.out.mono HBE.out.size)).grown hg3 (Nat.le_trans HBE.out.size HB2.out.size) (fun r e => by injection e with e; omega)
      have HCM3 := Lib.hid hcm3; have HBL3 := Lib.hid hbl3; have HBE3 := Lib.hid hbe3; have HN3 := Lib.hid hn3
      clear hm3 hg3 hcm3 hbl3 hbe3 hn3
      refine hK.out _ _ ?_ (fun hHeld' => ?_)
      · (try dsimp only)
        first | exact k3 | exact k2 | exact k0
      clear hK K hHeld
      have hHeld := hHeld'
      clear hHeld'
      refine wpAnyH_done (by kernel_rfl) ?_ _
      go_wp2
      go_roundw
      case rel => exact ⟨k + 1, _, _, by omega, by go_num, by rw [HTK.out]; exact HCM3.out, HN3.out, HBL3.out, HBE3.out⟩
      case measure => simp [RowKit.intOf]; omega
    · obtain rfl : k = len := by omega
      obtain ⟨z0, z1, z2⟩ := HCE.out wr HBE.out
      rw [show hl.take k = hl from List.take_of_length_le (by rw [HL0.out]; exact Nat.le_refl _)] at HCM
      obtain ⟨wp, hwp⟩ : ∃ x, x = wr := ⟨_, rfl⟩
      subst hwp
      go_wp2
      clear z0 z1 z2 hW0
      go_loopw [3, 8, 9, 34] (fun v _ _ i wr => ∃ (j : Nat) (xs : List Value), j ≤ k ∧ i = .int .i64 j ∧ GR LxF 1 22 wp wr (cyclesL L (hl.take j)) v xs) (fun _ _ _ i _ => k - (RowKit.intOf i).toNat)
      case atStart => exact ⟨0, [], by omega, rfl, GR.start (Below.refl _ _)⟩
      case round =>
        obtain ⟨j, xs, hj, rfl, hgr⟩ := hrel
        have HGR := Lib.hid hgr; have HQ := Lib.hid hgr.ch
        clear hgr
        by_cases hlj : j < k
        · have hjl : j < hl.length := by rw [HL0.out]; exact hlj
          have hjI : (j : Int) < (k : Int) := by omega
          obtain ⟨ad, rfl, had, hc⟩ := HR.out.at_ (k := j) hjl
          have hbw : Below w.heap.size w wr := HBE.out.trans (HQ.out.mono HBE.out.size)
          have hcw := (hbw.cell (p := ad.add j) (by rw [block_of_add]; exact had)).trans hc
          have hms : hl[j] ∈ hl := List.getElem_mem hjl
          have hss := HSZ.out _ hms
          have htk : cyclesL L (hl.take (j + 1)) = cyclesL L (hl.take j) ++ cyclesL L [hl[j]] := by
            unfold cyclesL
            rw [List.take_succ_eq_append_getElem hjl, List.filter_append, List.map_append]
          have hlen2 : (cyclesL L (hl.take j)).length ≤ j := by
            unfold cyclesL
            rw [List.length_map]
            exact Nat.le_trans (List.length_filter_le _ _) (by rw [List.length_take]; omega)
          generalize hl[j] = s at *
          have hcq := HCM.out.below HQ.out
          have hcq2 := hcq.below ((Below.refl _ _).alloc (Nat.le_refl _) (.cells #[.string s] 9))
          have h8 := Blk.new wr 9 #[.string s]
          have h4 := (HBL.out.below HQ.out HBL.out.lt).alloc (.cells #[.string s] 9)
          have hb3 : Below w.heap.size w (wr.alloc (.cells #[.string s] 9)) := hbw.alloc hbw.size _
          have hcall := HWH.out _ hb3 s #[wptr (w.heap.size + 1), wptr wr.heap.size] (enters_of Tryd.func29 (by kernel_rfl) rfl)
            (fun W x hW hx => both_any x s (by have := HSZ.out x hx; unfold maxLen; omega) (by unfold maxLen; omega) W (w.heap.size + 1) wr.heap.size w.heap.size _ _ L hl (hcq2.below hW) hx hms (h4.below hW h4.lt) (h8.below hW h8.lt))
          have hcomp : compOf L s = hl.filter (both L s) := by unfold compOf; rw [hhl]
          rw [← hcomp] at hcall
          have H8 := Lib.hid h8; have HTK := Lib.hid htk; have HBW := Lib.hid hbw
          clear hc had hss hcq hcq2 h4 h8 hb3 htk hbw hcomp hms
          go_wp2_with fail
          refine hcall.mono ?_
          rintro e w4 ⟨v4, rfl, ho4, hb4'⟩
          have hbq : Below wr.heap.size wr w4 := ((Below.refl _ _).alloc (Nat.le_refl _) _).trans (hb4'.mono (by simp))
          have h8' := H8.out.below hb4' H8.out.lt
          have k8 := h8'.cell 0
          simp only [List.getElem?_toArray, List.getElem?_cons_zero] at k8
          have htx : TxF w4 (NewS wr w4) (compOf L s) v4 := txF_own ho4 (fun b hb => by have h := World.ownsRow.lt ho4 b hb; rw [World.size_alloc] at h; exact ⟨by omega, h.2⟩)
          obtain ⟨A4, c4, rfl, hc41, hc42⟩ := ownsRow_form ho4
          have hr4 : ReadS w4 w4.heap.size A4 (compOf L s).length (compOf L s) := Reads.of_own ho4
          have HBQ := Lib.hid hbq; have HTX := Lib.hid htx
          clear hb4' hbq h8' htx ho4 hcall
          have hlead : ∀ y r, compOf L s = y :: r → leadB L s = decide (y = s) := fun y r e => by unfold leadB; rw [e]; simp
          have hlead0 : compOf L s = [] → leadB L s = false := fun e => by unfold leadB; rw [e]; rfl
          have hone : cyclesL L [s] = if leadB L s = true then [compOf L s] else [] := by
            unfold cyclesL
            cases h : leadB L s <;> simp [h]
          generalize compOf L s = cl at *
          cases cl with
          | nil =>
            rw [hlead0 rfl] at hone
            have HONE := Lib.hid hone
            clear hlead hlead0 hone hr4
            dsimp only [List.length_nil] at *
            go_upto_region 14 with fail
            refine wp_region_held_drew (S := (fun _ => True)) (by kernel_rfl) ?_ (fun hHeld => ?_)
            · (try dsimp only)
              all_goals trivial
            refine wpAnyH_take (i := 0) (v := ?_) rfl (by kernel_rfl) (by kernel_rfl) (by kernel_rfl) (fun _ _ _ h => h) (Or.inl ⟨by rfl, ?_⟩) (by assumption) ?_
            rotate_left
            · intro w hSw
              (try dsimp only at hSw)
              go_simp <;> with_reducible rfl
            try simp only [Act.put, List.getElem_toArray, List.getElem_cons_succ, List.getElem_cons_zero, List.setIfInBounds_toArray, List.set_cons_zero, List.set_cons_succ]
            refine wpAnyH_take (i := 1) (v := ?_) rfl (by kernel_rfl) (by kernel_rfl) (by kernel_rfl) (fun _ _ _ h => h) (Or.inl ⟨by rfl, ?_⟩) (by assumption) ?_
            rotate_left
            · intro w hSw
              (try dsimp only at hSw)
              go_simp <;> with_reducible rfl
            try simp only [Act.put, List.getElem_toArray, List.getElem_cons_succ, List.getElem_cons_zero, List.setIfInBounds_toArray, List.set_cons_zero, List.set_cons_succ]
            refine wpAnyH_take (i := 2) (v := ?_) rfl (by kernel_rfl) (by kernel_rfl) (by kernel_rfl) (fun _ _ _ h => h) (Or.inl ⟨by rfl, ?_⟩) (by assumption) ?_
            rotate_left
            · intro w hSw
              (try dsimp only at hSw)
              go_simp <;> with_reducible rfl
            try simp only [Act.put, List.getElem_toArray, List.getElem_cons_succ, List.getElem_cons_zero, List.setIfInBounds_toArray, List.set_cons_zero, List.set_cons_succ]
            refine wpAnyH_take (i := 3) (v := ?_) rfl (by kernel_rfl) (by kernel_rfl) (by kernel_rfl) (fun _ _ _ h => h) (Or.inl ⟨by rfl, ?_⟩) (by assumption) ?_
            rotate_left
            · intro w hSw
              (try dsimp only at hSw)
              go_simp <;> with_reducible rfl
            try simp only [Act.put, List.getElem_toArray, List.getElem_cons_succ, List.getElem_cons_zero, List.setIfInBounds_toArray, List.set_cons_zero, List.set_cons_succ]
            refine wpAnyH_take (i := 4) rfl (by kernel_rfl) (by kernel_rfl) (by kernel_rfl) (fun _ _ _ h => h) (Or.inr ⟨by rfl, rfl⟩) (by assumption) ?_
            try simp only [Act.put, List.getElem_toArray, List.getElem_cons_succ, List.getElem_cons_zero, List.setIfInBounds_toArray, List.set_cons_zero, List.set_cons_succ]
            refine wpAnyH_take (i := 5) rfl (by kernel_rfl) (by kernel_rfl) (by kernel_rfl) (fun _ _ _ h => h) (Or.inr ⟨by rfl, rfl⟩) (by assumption) ?_
            try simp only [Act.put, List.getElem_toArray, List.getElem_cons_succ, List.getElem_cons_zero, List.setIfInBounds_toArray, List.set_cons_zero, List.set_cons_succ]
            refine wpAnyH_take (i := 6) rfl (by kernel_rfl) (by kernel_rfl) (by kernel_rfl) (fun _ _ _ h => h) (Or.inr ⟨by rfl, rfl⟩) (by assumption) ?_
            try simp only [Act.put, List.getElem_toArray, List.getElem_cons_succ, List.getElem_cons_zero, List.setIfInBounds_toArray, List.set_cons_zero, List.set_cons_succ]
            refine wpAnyH_take (i := 7) rfl (by kernel_rfl) (by kernel_rfl) (by kernel_rfl) (fun _ _ _ h => h) (Or.inr ⟨by rfl, rfl⟩) (by assumption) ?_
            try simp only [Act.put, List.getElem_toArray, List.getElem_cons_succ, List.getElem_cons_zero, List.setIfInBounds_toArray, List.set_cons_zero, List.set_cons_succ]
            refine wpAnyH_take (i := 8) rfl (by kernel_rfl) (by kernel_rfl) (by kernel_rfl) (fun _ _ _ h => h) (Or.inr ⟨by rfl, rfl⟩) (by assumption) ?_
            try simp only [Act.put, List.getElem_toArray, List.getElem_cons_succ, List.getElem_cons_zero, List.setIfInBounds_toArray, List.set_cons_zero, List.set_cons_succ]
            refine wpAnyH_take (i := 9) (v := ?_) rfl (by kernel_rfl) (by kernel_rfl) (by kernel_rfl) (fun _ _ _ h => h) (Or.inl ⟨by rfl, ?_⟩) (by assumption) ?_
            rotate_left
            · intro w hSw
              (try dsimp only at hSw)
              go_simp <;> with_reducible rfl
            try simp only [Act.put, List.getElem_toArray, List.getElem_cons_succ, List.getElem_cons_zero, List.setIfInBounds_toArray, List.set_cons_zero, List.set_cons_succ]
            refine wpAnyH_done (by kernel_rfl) ?_ _
            go_wp2
            go_roundw
            case rel => exact ⟨j + 1, xs, by omega, by go_num, by rw [HTK.out, HONE.out, if_neg (by decide), List.append_nil]; exact HGR.out.below keepF_lx HBQ.out.drew⟩
            case measure => simp [RowKit.intOf]; omega
          | cons y r =>
            rw [hlead y r rfl] at hone
            have HONE := Lib.hid hone
            obtain ⟨a4, rfl, ha4, hcy⟩ := hr4.at_ (k := 0) (by simp : 0 < (y :: r).length)
            simp only [List.getElem_cons_zero] at hcy
            rw [show a4.add 0 = a4 from by unfold Addr.add; split <;> simp_all] at hcy
            simp only [List.length_cons]
            clear hlead hlead0 hone hr4
            go_upto_region 14 with fail
            refine wp_region_held_drew (S := (fun W => W.cell? ⟨wr.heap.size, 0, none⟩ = some (.string s) ∧ W.cell? a4 = some (.string y))) (by kernel_rfl) ?_ (fun hHeld => ?_)
            · (try dsimp only)
              exact ⟨k8, hcy⟩
            refine wpAnyH_take (i := 0) (v := ?_) rfl (by kernel_rfl) (by kernel_rfl) (by kernel_rfl) (fun _ _ _ h => h) (Or.inl ⟨by rfl, ?_⟩) (by assumption) ?_
            rotate_left
            · intro w hSw
              (try dsimp only at hSw)
              go_simp <;> with_reducible rfl
            try simp only [Act.put, List.getElem_toArray, List.getElem_cons_succ, List.getElem_cons_zero, List.setIfInBounds_toArray, List.set_cons_zero, List.set_cons_succ]
            refine wpAnyH_take (i := 1) (v := ?_) rfl (by kernel_rfl) (by kernel_rfl) (by kernel_rfl) (fun _ _ _ h => h) (Or.inl ⟨by rfl, ?_⟩) (by assumption) ?_
            rotate_left
            · intro w hSw
              (try dsimp only at hSw)
              go_simp <;> with_reducible rfl
            try simp only [Act.put, List.getElem_toArray, List.getElem_cons_succ, List.getElem_cons_zero, List.setIfInBounds_toArray, List.set_cons_zero, List.set_cons_succ]
            refine wpAnyH_take (i := 2) (v := ?_) rfl (by kernel_rfl) (by kernel_rfl) (by kernel_rfl) (fun _ _ _ h => h) (Or.inl ⟨by rfl, ?_⟩) (by assumption) ?_
            rotate_left
            · intro w hSw
              (try dsimp only at hSw)
              go_simp <;> with_reducible rfl
            try simp only [Act.put, List.getElem_toArray, List.getElem_cons_succ, List.getElem_cons_zero, List.setIfInBounds_toArray, List.set_cons_zero, List.set_cons_succ]
            refine wpAnyH_take (i := 3) (v := ?_) rfl (by kernel_rfl) (by kernel_rfl) (by kernel_rfl) (fun _ _ _ h => h) (Or.inl ⟨by rfl, ?_⟩) (by assumption) ?_
            rotate_left
            · intro w hSw
              (try dsimp only at hSw)
              go_simp <;> with_reducible rfl
            try simp only [Act.put, List.getElem_toArray, List.getElem_cons_succ, List.getElem_cons_zero, List.setIfInBounds_toArray, List.set_cons_zero, List.set_cons_succ]
            refine wpAnyH_take (i := 4) (v := ?_) rfl (by kernel_rfl) (by kernel_rfl) (by kernel_rfl) (fun _ _ _ h => h) (Or.inl ⟨by rfl, ?_⟩) (by assumption) ?_
            rotate_left
            · intro w hSw
              (try dsimp only at hSw)
              go_simp <;> with_reducible rfl
            try simp only [Act.put, List.getElem_toArray, List.getElem_cons_succ, List.getElem_cons_zero, List.setIfInBounds_toArray, List.set_cons_zero, List.set_cons_succ]
            refine wpAnyH_take (i := 5) (v := ?_) rfl (by kernel_rfl) (by kernel_rfl) (by kernel_rfl) (fun _ _ _ h => h) (Or.inl ⟨by rfl, ?_⟩) (by assumption) ?_
            rotate_left
            · intro w hSw
              (try dsimp only at hSw)
              go_simp <;> with_reducible rfl
            try simp only [Act.put, List.getElem_toArray, List.getElem_cons_succ, List.getElem_cons_zero, List.setIfInBounds_toArray, List.set_cons_zero, List.set_cons_succ]
            refine wpAnyH_take (i := 6) (v := ?_) rfl (by kernel_rfl) (by kernel_rfl) (by kernel_rfl) (fun _ _ _ h => h) (Or.inl ⟨by rfl, ?_⟩) (by assumption) ?_
            rotate_left
            · intro w hSw
              (try dsimp only at hSw)
              go_simp <;> with_reducible rfl
            try simp only [Act.put, List.getElem_toArray, List.getElem_cons_succ, List.getElem_cons_zero, List.setIfInBounds_toArray, List.set_cons_zero, List.set_cons_succ]
            refine wpAnyH_take (i := 7) (v := ?_) rfl (by kernel_rfl) (by kernel_rfl) (by kernel_rfl) (fun _ _ _ h => h) (Or.inl ⟨by rfl, ?_⟩) (by assumption) ?_
            rotate_left
            · intro w hSw
              (try dsimp only at hSw)
              go_simp <;> with_reducible rfl
            try simp only [Act.put, List.getElem_toArray, List.getElem_cons_succ, List.getElem_cons_zero, List.setIfInBounds_toArray, List.set_cons_zero, List.set_cons_succ]
            refine wpAnyH_take (i := 8) (v := ?_) rfl (by kernel_rfl) (by kernel_rfl) (by kernel_rfl) (fun _ _ _ h => h) (Or.inl ⟨by rfl, ?_⟩) (by assumption) ?_
            rotate_left
            · intro w hSw
              (try dsimp only at hSw)
              go_simp <;> with_reducible rfl
            try simp only [Act.put, List.getElem_toArray, List.getElem_cons_succ, List.getElem_cons_zero, List.setIfInBounds_toArray, List.set_cons_zero, List.set_cons_succ]
            refine wpAnyH_take (i := 9) (v := ?_) rfl (by kernel_rfl) (by kernel_rfl) (by kernel_rfl) (fun _ _ _ h => h) (Or.inl ⟨by rfl, ?_⟩) (by assumption) ?_
            rotate_left
            · intro w hSw
              (try dsimp only at hSw)
              go_simp <;> with_reducible rfl
            try simp only [Act.put, List.getElem_toArray, List.getElem_cons_succ, List.getElem_cons_zero, List.setIfInBounds_toArray, List.set_cons_zero, List.set_cons_succ]
            refine wpAnyH_done (by kernel_rfl) ?_ _
            by_cases hys : y = s
            · rw [decide_eq_true hys, if_pos rfl] at HONE
              rw [show (y.toList == s.toList) = true by rw [hys]; exact beq_self_eq_true _]
              have hown2 := HGR.out.own2 (HBQ.out.drew)
              have hrn : Reads (w4.drew.alloc (.cells #[Value.slice (some a4) (r.length + 1) c4] 22)) (w4.heap.size + 1) 1 (some ⟨w4.heap.size, 0, none⟩) 1 [Value.slice (some a4) (r.length + 1) c4] := reads_new w4.drew 22 [Value.slice (some a4) (r.length + 1) c4]
              have hq1 := HQ.out.size
              have hq2 := HBQ.out.size
              have hlx : LxF w4.drew (NewS wr w4.drew) (y :: r) [Value.slice (some a4) (r.length + 1) c4] := ⟨_, rfl, HTX.out⟩
              have HO2 := Lib.hid hown2; have HRN := Lib.hid hrn; have HLX := Lib.hid hlx
              clear hown2 hrn hlx hHeld hcy k8
              generalize hnn : (cyclesL L (hl.take j)).length = nn at *
              have HNN := Lib.hid hnn
              have hle : r.length + 1 ≤ c4 := hc41
              generalize r.length + 1 = rn at *
              go_wp2_with (at_builtin; refine wpList_append_any _ rfl _ _ 28 rfl wp.heap.size 22 i0 (.slice none 0 0) 1 24 Tryd.underlying28 hi hz0 hz1 hz2 rfl (by decide) _ _ _ rfl (HO2.out.alloc _) _ _ _ _ [Value.slice (some a4) rn c4] rfl HRN.out (by intro u hu; rw [List.mem_singleton] at hu; subst hu; rfl) (by unfold maxLen; omega) (by omega) (by simp; omega) ?_; intro v' w3 hown' hgrow hx'; have HN := Lib.hid (GR.next keepF_lx HGR.out HBQ.out.drew HLX.out (by rw [HNN.out]; exact hown') hgrow hx'); clear hown' hgrow hx')
              go_roundw
              case rel => exact ⟨j + 1, _, by omega, by go_num, by rw [HTK.out, HONE.out]; exact HN.out⟩
              case measure => simp [RowKit.intOf]; omega
            · rw [decide_eq_false hys, if_neg (by decide)] at HONE
              rw [show (y.toList == s.toList) = false by rw [beq_ba]; exact decide_eq_false hys]
              go_wp2
              go_roundw
              case rel => exact ⟨j + 1, xs, by omega, by go_num, by rw [HTK.out, HONE.out, List.append_nil]; exact HGR.out.below keepF_lx HBQ.out.drew⟩
              case measure => simp [RowKit.intOf]; omega
        · obtain rfl : j = k := by omega
          have hfin := HGR.out.fin keepF_lx
          rw [show hl.take j = hl from List.take_of_length_le (by rw [HL0.out]; exact Nat.le_refl _)] at hfin
          have HFIN := Lib.hid (LlF.keep hfin (S' := NewS w wr) (fun b hb => ⟨Nat.le_trans HBE.out.size hb.1, hb.2⟩) (fun _ _ => rfl))
          clear hfin
          go_wp2
          go_ret
          exact ⟨_, rfl, HFIN.out, HBE.out.trans (HQ.out.mono HBE.out.size)⟩
end
end Go.Proofs.YtgkpoopiamicnaaDoor
