/-
  Layer 40: Missing: the walk, but for the sort. Conditions: a dictionary in memory; what the sort does.
-/
import Derived.Test.YtgkpoopiamicnaaDoorZaam
import Derived.Test.YtgkpoopiamicnaaDoorShelf
import Derived.Sort.OwnSorted
import Derived.Lib.RowBridge
import Derived.Shelf.Slices.CompactS
import Derived.LoopN
namespace Go.Proofs.YtgkpoopiamicnaaDoor
open Go.RowKit Go.Lib

/-! slices.Compact. -/
def compactS (l : List ByteArray) : List ByteArray := (Lib.compact (l.map bl)).map mkB
theorem enc_bl (l : List ByteArray) : (l.map bl).map encStr = l.map Value.string := by rw [List.map_map]; exact List.map_congr_left fun x _ => rfl
theorem enc_mkB (l : List (List UInt8)) : l.map encStr = (l.map mkB).map Value.string := by rw [List.map_map]; rfl
theorem TxF.pre {w : World} {S : Nat → Prop} {l m : List ByteArray} {A : Option Addr} {n c : Nat} (h : TxF w S (l ++ m) (.slice A n c)) : TxF w S l (.slice A l.length c) := by
  obtain ⟨A', c', e, h1, h2⟩ := h
  injection e with e1 e2 e3
  subst e1 e3
  rw [List.length_append] at h1 h2
  refine ⟨A, c, rfl, ⟨by omega, h1.2⟩, by simp, fun hn => ?_⟩
  obtain ⟨a, e, h3, h4⟩ := h2.2 (by omega)
  refine ⟨a, e, h3, fun j u hu => h4 j u ?_⟩
  rw [List.map_append, List.getElem?_append_left (List.getElem?_eq_some_iff.1 hu).1]
  exact hu
theorem compact_row {w : World} {base n : Nat} {v : Value} {l : List ByteArray} (h : w.ownsRow base 9 1 v n (l.map Value.string)) (hn : n ≤ 100000) :
    Calls Tryd.prog 45 #[v] w fun e w' => ∃ v', e = .returned v' ∧ TxF w' (fun b => v.ownBlock = some b) (compactS l) v' ∧ w.grownBy w' v.ownBlock := by
  have hl : l.length = n := by simpa using h.1
  rcases h.2 with ⟨rfl, hz⟩ | ⟨gb, cap, cur, rfl, hbase, hgb, r1, r2, r3, r4⟩
  · have hz' : n = 0 := hz
    subst hz'
    obtain rfl : l = [] := List.eq_nil_of_length_eq_zero hl
    refine (Tryd.slices_Compact_string_empty none 0 w).mono ?_
    rintro e w' ⟨rfl, rfl⟩
    exact ⟨_, rfl, by rw [show compactS [] = [] from rfl]; exact txF_nil _ _, World.grownBy.refl _ _⟩
  · subst hl
    have hH : Go.Sort.Holds encStr w gb 0 (l.map bl).toArray := holds_of_block hgb (by rw [List.length_map, enc_bl]; simpa using r4)
    have hc := Tryd.slices_Compact_string gb 0 cap (l.map bl) w hH (by rw [List.length_map]; omega) (by rw [List.length_map]; omega)
    rw [List.length_map] at hc
    refine hc.mono ?_
    rintro e w' ⟨rfl, nn, rfl⟩
    have hle : (Lib.compact (l.map bl)).length ≤ l.length := by
      have h := Lib.compact_length_le (l.map bl)
      rwa [List.length_map] at h
    have ho := ownsRow_sorted (ss := l.map bl) (ts := Lib.compact (l.map bl) ++ List.replicate (l.length - (Lib.compact (l.map bl)).length) []) (os := #[]) (n := nn) (by simp; omega) hbase hgb (by simpa using r1) r2 r3
    have hg := grownBy_sorted (w := w) (g := gb) (n := nn) (os := #[]) (Lib.compact (l.map bl) ++ List.replicate (l.length - (Lib.compact (l.map bl)).length) []).toArray
    rw [show ∀ W : World, Go.Sort.grow W #[] = W from fun W => by unfold Go.Sort.grow; simp] at ho hg
    rw [enc_mkB, List.map_append] at ho
    have e1 : (l.map bl).length = (compactS l ++ (List.replicate (l.length - (Lib.compact (l.map bl)).length) []).map mkB).length := by
      simp only [compactS, List.length_append, List.length_map, List.length_replicate]; omega
    rw [e1] at ho
    have htx := txF_own (S := fun b => some gb = some b) (l := compactS l ++ (List.replicate (l.length - (Lib.compact (l.map bl)).length) []).map mkB) ho (fun b hb => hb)
    exact ⟨.slice (some ⟨gb, 0, none⟩) (compactS l).length cap, by simp [compactS], htx.pre, hg⟩
/-! What is missing. -/
def missOf (L : List Art) (s : ByteArray) : List ByteArray := (seeOf L s).filter fun t => !thereB L t
def missAll (L : List Art) (l : List ByteArray) : List ByteArray := l.flatMap (missOf L)
theorem missOf_len (L : List Art) (s : ByteArray) : (missOf L s).length ≤ (seeOf L s).length := List.length_filter_le _ _
theorem seeOf_len {gs : Grps} {L : List Art} (hg : GoodD gs L) (s : ByteArray) : (seeOf L s).length ≤ 16 := by
  unfold seeOf artOf
  cases h : getA L s with
  | none => exact Nat.zero_le _
  | some x => exact (hg.arts x (getA_some h).1).see.1
/-- What the sort does to an own row: R. -/
def SortsM (w : World) (g : Nat) (P : List ByteArray → Prop) (R : List ByteArray → List ByteArray → Prop) : Prop := ∀ (W : World) (v : Value) (l : List ByteArray), Below w.heap.size w W → P l → W.ownsRow w.heap.size 9 1 v l.length (l.map Value.string) →
  Calls Tryd.prog 44 #[v, .func (.func 33) #[wptr g] #[]] W fun e W' => e = .returned (.tuple #[]) ∧ ∃ l', R l l' ∧ l'.length = l.length ∧ W'.ownsRow w.heap.size 9 1 v l'.length (l'.map Value.string) ∧ Below w.heap.size w W'
def MissPost (w : World) (L : List Art) (R : List ByteArray → List ByteArray → Prop) (e : Ending) (w' : World) : Prop := ∃ v l l', e = .returned v ∧ l.Perm (missAll L (headsL L)) ∧ R l l' ∧ TxF w' (NewS w w') (compactS l') v ∧ Below w.heap.size w w'
section
variable {w : World} {B a g mb : Nat} {hv : Value} {gs : Grps} {S : Nat → Prop} {L : List Art} {f : ByteArray → Option Value}
/-- What has been visited. -/
structure Visit (L : List Art) (vs : List ByteArray) (left : ByteArray → Bool) (cnt : Nat) : Prop where
  nodup : vs.Nodup
  in_ : ∀ s ∈ vs, thereB L s = true
  left_ : ∀ s, left s = true ↔ thereB L s = true ∧ s ∉ vs
  few : vs.length + cnt ≤ L.length
theorem Visit.start (L : List Art) (left : ByteArray → Bool) (hl : ∀ s, left s = thereB L s) : Visit L [] left L.length := ⟨List.nodup_nil, by simp, fun s => by simp [hl], by simp⟩
theorem Visit.next {vs : List ByteArray} {left : ByteArray → Bool} {cnt cnt' : Nat} (h : Visit L vs left cnt) {s : ByteArray} (hs : left s = true) (hc : cnt' < cnt) : Visit L (vs ++ [s]) (fun t => left t && !decide (t = s)) cnt' := by
  have h2 := (h.left_ s).1 hs
  refine ⟨?_, fun t ht => ?_, fun t => ?_, by have := h.few; rw [List.length_append]; simp; omega⟩
  · rw [List.nodup_append]
    exact ⟨h.nodup, by simp, fun x hx y hy => by rw [List.mem_singleton] at hy; rintro rfl; exact h2.2 (hy ▸ hx)⟩
  · rw [List.mem_append, List.mem_singleton] at ht
    rcases ht with ht | rfl
    · exact h.in_ t ht
    · exact h2.1
  · rw [Bool.and_eq_true, h.left_ t, List.mem_append, List.mem_singleton, Bool.not_eq_true', decide_eq_false_iff_not, not_or, and_assoc]
theorem Visit.done {vs : List ByteArray} {left : ByteArray → Bool} {cnt : Nat} (h : Visit L vs left cnt) (hg : GoodD gs L) (hl : ∀ s, left s = false) : vs.Perm (headsL L) := by
  refine (List.perm_ext_iff_of_nodup h.nodup hg.nodup).2 fun s => ⟨fun hs => memB_iff.1 (h.in_ s hs), fun hs => ?_⟩
  refine Classical.byContradiction fun hn => ?_
  have := (h.left_ s).2 ⟨memB_iff.2 hs, hn⟩
  rw [hl s] at this
  cases this
theorem missAll_perm {l m : List ByteArray} (h : l.Perm m) : (missAll L l).Perm (missAll L m) := h.flatMap_right _
end
end Go.Proofs.YtgkpoopiamicnaaDoor
namespace Go.Proofs.YtgkpoopiamicnaaDoor
open Go.RowKit Go.Lib

section
variable {w : World} {B a g mb : Nat} {hv : Value} {gs : Grps} {S : Nat → Prop} {L : List Art} {f : ByteArray → Option Value}
def MissAt (w wr : World) (mb : Nat) (L : List Art) (f : ByteArray → Option Value) (v : Value) (vs : List ByteArray) (left : ByteArray → Bool) (cnt : Nat) (l : List ByteArray) : Prop :=
  RangeH wr mb w.heap.size L.length f left cnt ∧ Visit L vs left cnt ∧ wr.ownsRow (w.heap.size + 1) 9 1 v l.length (l.map Value.string) ∧ Below w.heap.size w wr
set_option linter.unusedSimpArgs false in
set_option maxRecDepth 20000 in
set_option maxHeartbeats 8000000 in
theorem missing_any (h : DictM w B a g mb hv gs S L f) (hg : GoodD gs L) (P : List ByteArray → Prop) (R : List ByteArray → List ByteArray → Prop) (hP : ∀ l, l.Perm (missAll L (headsL L)) → P l) (hS : SortsM w g P R) :
    Calls Tryd.prog 21 #[wptr g] w (MissPost w L R) := by
  obtain ⟨i0, hi, hz0, hz1, hz2⟩ := info_parts (show (Tryd.prog.info? 9).map (fun i => (i.zero, i.size, i.bytes)) = some (some (.string ByteArray.empty), 1, 16) by kernel_rfl)
  have hv1 := valid_any h
  have hce := fun W (hb : Below w.heap.size w W) => (h.below hb).cells
  have hlk := fun W (hb : Below w.heap.size w W) (s : ByteArray) (hs : s.size ≤ 140737488351232) => (h.below hb).look s (by unfold maxLen; omega)
  have hav := fun t => h.at_ t
  have hent : ∀ s v, f s = some v → artV f s = v := fun s v e => by unfold artV; rw [e]; rfl
  have hdom := h.dom
  have hrd := fun b hb => (h.cont b hb).2.1
  have hm := h.map
  have hsl := seeOf_len hg
  have hsz : ∀ s, ∀ t ∈ seeOf L s, t.size ≤ 140737488351232 := fun s => (artOf_good hg s).2.see
  have hdn := fun (vs : List ByteArray) (left : ByteArray → Bool) (cnt : Nat) (h : Visit L vs left cnt) (hl : ∀ s, left s = false) => h.done hg hl
  have hlen := hg.len
  have HCE := Lib.hid hce; have HLK := Lib.hid hlk; have HAV := Lib.hid hav; have HEN := Lib.hid hent; have HDM := Lib.hid hdom; have HRD := Lib.hid hrd; have HM := Lib.hid hm; have HSL := Lib.hid hsl; have HSZ := Lib.hid hsz; have HDN := Lib.hid hdn; have HP := Lib.hid hP; have HS := Lib.hid hS
  obtain ⟨z0, z1, z2⟩ := hce w (Below.refl _ _)
  clear h hg hce hlk hav hent hdom hrd hm hsl hsz hdn hP hS
  go_enter Tryd.func21, Tryd.ntmps21
  go_wp2_with fail
  refine hv1.mono ?_
  rintro e w1 ⟨rfl, rfl⟩
  go_wp2_with (refine wpList_rangeH rfl 58 35 (.tmp 16) rfl Tryd.underlying58 mb L.length f rfl HM.out ?_; intro W1 hR hg1 hs1; have HR := Lib.hid hR; have HB1 : Hid (Below w.heap.size w W1) := Lib.hid ((Below.refl w.heap.size w).grown hg1 (Nat.le_refl _) (by simp)); clear hR hg1)
  simp only [Act.put, List.setIfInBounds_toArray, List.set_cons_zero, List.set_cons_succ]
  clear z0 z1 z2
  go_loopw [3, 5, 7, 8, 9, 25] (fun v _ _ _ _ _ wr => ∃ vs left cnt, MissAt w wr mb L f v vs left cnt (missAll L vs) ∧ (missAll L vs).length ≤ 16 * vs.length) (fun _ _ _ _ _ _ wr => wr.rangeLeft mb w.heap.size)
  case atStart => exact ⟨[], _, _, ⟨HR.out, Visit.start L _ HDM.out, World.ownsRow_nil _ _ _ _, HB1.out⟩, Nat.zero_le _⟩
  case round =>
    obtain ⟨vs, left, cnt, ⟨hR1, hvis, hown, hb⟩, hle⟩ := hrel
    have HR1 := Lib.hid hR1; have HVIS := Lib.hid hvis; have HO := Lib.hid hown; have HB := Lib.hid hb
    have hleft := hR1.left_eq
    clear hR1 hvis hown hb HR HB1
    go_upto_region 5 with fail
    refine wp_region_lit ?_
    refine wpList_nextH rfl (.tmp 17) rfl mb w.heap.size L.length f left cnt rfl HR1.out (fun hl => ?_) (fun s v W2 cnt2 hss hls hfs hR2 hc2 hg2 hs2 hen => ?_)
    · have HPM := Lib.hid (HDN.out vs left cnt HVIS.out hl)
      simp only [Act.put, List.setIfInBounds_toArray, List.set_cons_zero, List.set_cons_succ]
      have hcall := HS.out wr u3 (missAll L vs) HB.out (HP.out _ (missAll_perm HPM.out)) (own_mono HO.out (by omega))
      go_wp2_with fail
      refine hcall.mono ?_
      rintro e w5 ⟨rfl, l', hR, hll, ho5, hb5⟩
      have hcp := compact_row ho5 (by have := HVIS.out.few; omega)
      have HO5 := Lib.hid ho5; have HB5 := Lib.hid hb5
      clear hcall ho5 hb5
      go_wp2_with fail
      refine hcp.mono ?_
      rintro e w6 ⟨v6, rfl, htx, hg6⟩
      have hb6 := HB5.out.grown hg6 HB5.out.size (fun k hk => (HO5.out.lt k hk).1)
      have htx2 : TxF w6 (NewS w w6) (compactS l') v6 := htx.keep (fun b hb => by have h1 := HO5.out.lt b hb; have h2 := hg6.size; exact ⟨h1.1, by omega⟩) (fun _ _ => rfl)
      have HTX := Lib.hid htx2; have HB6 := Lib.hid hb6
      clear htx hg6 hb6 htx2 hcp
      go_wp2
      go_ret
      exact ⟨_, _, l', rfl, missAll_perm HPM.out, hR, HTX.out, HB6.out⟩
    · simp only [Act.put, List.setIfInBounds_toArray, List.set_cons_zero, List.set_cons_succ]
      have hvis2 := HVIS.out.next hls hc2
      have hb2 : Below w.heap.size w W2 := HB.out.grown hg2 HB.out.size (fun k hk => by injection hk with hk; omega)
      have hown2 := World.ownsRow.kept HO.out hg2 (.inr fun e => by have := (HO.out.lt _ e).1; omega)
      obtain ⟨cs, hav, hcs⟩ := HAV.out s
      rw [HEN.out s v hfs] at hav
      obtain ⟨A1, c1, A2, c2, A3, c3, rfl, -, -, hr3, -, -, q3⟩ := hcs.reads HRD.out
      subst hav
      have hbw := hb2.size
      have hrs : ReadS w w.heap.size A3 (seeOf L s).length (seeOf L s) := hr3
      have e3 : (artOf L s).see.length = (seeOf L s).length := rfl
      have hmo : missAll L (vs ++ [s]) = missAll L vs ++ missOf L s := by unfold missAll; rw [List.flatMap_append]; simp
      have hbx := Blk.new W2 35 #[.string (artOf L s).head, .slice A1 (artOf L s).word.length c1, .slice A2 (artOf L s).texts.length c2, .slice A3 (artOf L s).see.length c3]
      obtain ⟨W3, hW3⟩ : ∃ W, W2.alloc (.cells #[.string (artOf L s).head, .slice A1 (artOf L s).word.length c1, .slice A2 (artOf L s).texts.length c2, .slice A3 (artOf L s).see.length c3] 35) = W := ⟨_, rfl⟩
      have hb3 : Below W2.heap.size W2 W3 := hW3 ▸ (Below.refl _ _).alloc (Nat.le_refl _) _
      rw [hW3, hs2] at hbx
      have x3 := hbx.cell 3
      simp only [List.getElem?_toArray, List.getElem?_cons_zero, List.getElem?_cons_succ] at x3
      have HR3 := Lib.hid (hR2.below hb3); have HVIS2 := Lib.hid hvis2; have HO3 := Lib.hid (own_below hown2 hb3); have HB3 := Lib.hid (hb2.trans (hb3.mono hbw)); have HRS := Lib.hid hrs; have HMO := Lib.hid hmo
      have hsl := HSL.out s
      rw [e3] at x3 hW3 hen q3
      dsimp only [aggM] at hen
      clear hvis2 hown2 hb2 hcs hr3 hrs hfs hR2 hg2 hbx hb3 hmo e3
      generalize (artOf L s).head = h7 at *
      generalize (artOf L s).word.length = n7 at *
      generalize (artOf L s).texts.length = m7 at *
      obtain ⟨wp, hwp⟩ : ∃ x, x = wr := ⟨_, rfl⟩
      subst hwp
      have hml : (missOf L s).length ≤ 16 := Nat.le_trans (missOf_len L s) hsl
      have hvl : vs.length + 1 + cnt2 ≤ L.length := by have h := HVIS2.out.few; rw [List.length_append] at h; exact h
      go_wp2
      clear x3 hen hW3
      go_loopw [3, 7, 8, 9, 25] (fun v _ _ _ i wr => ∃ j : Nat, j ≤ (seeOf L s).length ∧ i = .int .i64 j ∧ RangeH wr mb w.heap.size L.length f (fun t => left t && !decide (t = s)) cnt2 ∧ wr.ownsRow (w.heap.size + 1) 9 1 v (missAll L vs ++ ((seeOf L s).take j).filter fun t => !thereB L t).length ((missAll L vs ++ ((seeOf L s).take j).filter fun t => !thereB L t).map Value.string) ∧ Below w.heap.size w wr) (fun _ _ _ _ i _ => (seeOf L s).length - (RowKit.intOf i).toNat)
      case atStart => exact ⟨0, by omega, rfl, HR3.out, by simpa using HO3.out, HB3.out⟩
      case round =>
        obtain ⟨j, hj, rfl, hr4, ho4, hb4⟩ := hrel
        have HR4 := Lib.hid hr4; have HO4 := Lib.hid ho4; have HB4 := Lib.hid hb4
        clear hr4 ho4 hb4
        by_cases hlj : j < (seeOf L s).length
        · have hjI : (j : Int) < ((seeOf L s).length : Int) := by omega
          obtain ⟨ad, rfl, had, hc⟩ := HRS.out.at_ (k := j) hlj
          have hcw := (HB4.out.cell (p := ad.add j) (by rw [block_of_add]; exact had)).trans hc
          have htz := HSZ.out s _ (List.getElem_mem hlj)
          have htk : ((seeOf L s).take (j + 1)).filter (fun t => !thereB L t) = ((seeOf L s).take j).filter (fun t => !thereB L t) ++ [(seeOf L s)[j]].filter fun t => !thereB L t := by rw [List.take_succ_eq_append_getElem hlj, List.filter_append]
          have hfl : (((seeOf L s).take j).filter fun t => !thereB L t).length ≤ 16 := Nat.le_trans (List.length_filter_le _ _) (by rw [List.length_take]; omega)
          obtain ⟨z0, z1, z2⟩ := HCE.out wr HB4.out
          obtain ⟨t, htd⟩ : ∃ t, (seeOf L s)[j] = t := ⟨_, rfl⟩
          rw [htd] at htz hcw htk
          have hlk := HLK.out wr HB4.out t htz
          obtain ⟨cs2, hav2, hcs2⟩ := HAV.out t
          obtain ⟨B1, d1, B2, d2, B3, d3, rfl⟩ := hcs2.form
          rw [hav2] at hlk
          dsimp only [aggM] at hlk
          clear hav2 hcs2 hc had htd
          generalize hfl0 : ((seeOf L s).take j).filter (fun t => !thereB L t) = fl at *
          have hb5 : Below wr.heap.size wr (wr.alloc (.cells #[.string (artOf L t).head, .slice B1 (artOf L t).word.length d1, .slice B2 (artOf L t).texts.length d2, .slice B3 (artOf L t).see.length d3] 35)) := (Below.refl _ _).alloc (Nat.le_refl _) _
          have HR5 := Lib.hid (HR4.out.below hb5); have HO5 := Lib.hid (own_below HO4.out hb5); have HB5 := Lib.hid (HB4.out.trans (hb5.mono HB4.out.size))
          have hq := HB4.out.size
          clear hb5
          generalize (artOf L t).head = y7 at *
          generalize (artOf L t).word.length = y8 at *
          generalize (artOf L t).texts.length = y9 at *
          generalize (artOf L t).see.length = y10 at *
          cases htb : thereB L t with
          | true =>
            rw [htb] at hlk
            rw [show [t].filter (fun t => !thereB L t) = [] by simp [htb], List.append_nil] at htk
            have HTK := Lib.hid htk
            go_wp2
            go_roundw
            case rel => exact ⟨j + 1, hlj, by go_num, HR5.out, by rw [HTK.out]; exact HO5.out, HB5.out⟩
            case measure => simp [RowKit.intOf]; omega
          | false =>
            rw [htb] at hlk
            rw [show [t].filter (fun t => !thereB L t) = [t] by simp [htb]] at htk
            have HTK := Lib.hid htk
            have HRN := Lib.hid (reads_new (wr.alloc (.cells #[.string y7, .slice B1 y8 d1, .slice B2 y9 d2, .slice B3 y10 d3] 35)) 9 [Value.string t])
            simp only [World.size_alloc] at HRN
            generalize hnn : (missAll L vs ++ fl).length = nn at *
            have HNN := Lib.hid hnn
            have hnn2 : nn ≤ 20000 := by rw [← hnn, List.length_append]; omega
            go_wp2_with (at_builtin; go_loud (refine wpList_append_any _ rfl _ _ 22 rfl (w.heap.size + 1) 9 i0 (.string ByteArray.empty) 1 16 Tryd.underlying22 hi hz0 hz1 hz2 rfl (by decide) _ _ _ rfl (HO5.out.alloc _) _ _ _ _ [.string t] rfl HRN.out (by intro u hu; rw [List.mem_singleton] at hu; subst hu; rfl) (by unfold maxLen; omega) (by first | omega | (simp; omega)) (by first | omega | (simp; omega)) ?_; intro v' w3 hown' hgrow hx'; have HN := Lib.hid hown'; have HG := Lib.hid hgrow; clear hown' hgrow hx'))
            have hbn : Below w.heap.size w w3 := ((HB5.out.alloc HB5.out.size (.cells #[.string t] 9)).grown HG.out (by simp; omega) (fun k hk => by have := (HO5.out.lt k hk).1; omega))
            have hrn : RangeH w3 mb w.heap.size L.length f (fun t => left t && !decide (t = s)) cnt2 := (HR5.out.below ((Below.refl _ _).alloc (Nat.le_refl _) (.cells #[.string t] 9))).kept HG.out (fun e => by have := (HO5.out.lt mb e.symm).1; have := HM.out.lt; omega) (fun e => by have := (HO5.out.lt _ e.symm).1; omega)
            have HBN := Lib.hid hbn; have HRN3 := Lib.hid hrn
            clear hbn hrn
            go_roundw
            case rel => exact ⟨j + 1, hlj, by go_num, HRN3.out, by rw [HTK.out, ← List.append_assoc, List.length_append, List.map_append, HNN.out]; exact HN.out, HBN.out⟩
            case measure => simp [RowKit.intOf]; omega
        · obtain rfl : j = (seeOf L s).length := by omega
          have hown5 := HO4.out
          rw [List.take_length] at hown5
          have hmm : missAll L vs ++ (seeOf L s).filter (fun t => !thereB L t) = missAll L (vs ++ [s]) := HMO.out.symm
          rw [hmm] at hown5
          have hle2 : (missAll L (vs ++ [s])).length ≤ 16 * (vs ++ [s]).length := by rw [HMO.out, List.length_append, List.length_append]; simp; omega
          have hlf := HR4.out.left_eq
          have HO5 := Lib.hid hown5; have HL2 := Lib.hid hle2
          clear hown5 hle2 hmm
          go_wp2
          refine ⟨⟨vs ++ [s], _, cnt2, ⟨HR4.out, HVIS2.out, HO5.out, HB4.out⟩, HL2.out⟩, by rw [hlf, hleft]; exact hc2⟩
end
end Go.Proofs.YtgkpoopiamicnaaDoor
namespace Go.Proofs.YtgkpoopiamicnaaDoor
open Go.RowKit Go.Lib

set_option linter.unusedSimpArgs false in
set_option maxRecDepth 20000 in
set_option maxHeartbeats 4000000 in
theorem insert_one (A : Option Addr) (c n : Nat) (hn : n ≤ 1) (k : Value) (w : World) : Calls Tryd.prog 79 #[.slice A n c, .int .i64 0, .int .i64 n, k] w fun e w' => e = .returned (.tuple #[]) ∧ w' = w := by
  rcases (by omega : n = 0 ∨ n = 1) with rfl | rfl
  · go_enter Tryd.func79, Tryd.ntmps79
    go_wp2
    refine wp_loop_rounds 1 ?_
    rw [rounds_succ]
    go_wp2
    go_end0
    exact ⟨rfl, rfl⟩
  · go_enter Tryd.func79, Tryd.ntmps79
    go_wp2
    refine wp_loop_rounds 1 ?_
    rw [rounds_succ]
    go_wp2
    go_end0
    exact ⟨rfl, rfl⟩
set_option linter.unusedSimpArgs false in
set_option maxRecDepth 20000 in
set_option maxHeartbeats 4000000 in
theorem pdq_one (A : Option Addr) (c n : Nat) (hn : n ≤ 1) (l : Value) (k : Value) (w : World) : Calls Tryd.prog 67 #[.slice A n c, .int .i64 0, .int .i64 n, l, k] w fun e w' => e = .returned (.tuple #[]) ∧ w' = w := by
  have hi := insert_one A c n hn k w
  rcases (by omega : n = 0 ∨ n = 1) with rfl | rfl
  · go_enter Tryd.func67, Tryd.ntmps67
    go_wp2
    refine wp_loop_rounds 1 ?_
    rw [rounds_succ]
    go_wp2_with fail
    refine hi.mono ?_
    rintro e w1 ⟨rfl, rfl⟩
    go_wp2
    exact bodyPost_ret (v := .tuple #[]) (by simp [results, Tryd.results67, go_sem]) rfl ⟨rfl, rfl⟩
  · go_enter Tryd.func67, Tryd.ntmps67
    go_wp2
    refine wp_loop_rounds 1 ?_
    rw [rounds_succ]
    go_wp2_with fail
    refine hi.mono ?_
    rintro e w1 ⟨rfl, rfl⟩
    go_wp2
    exact bodyPost_ret (v := .tuple #[]) (by simp [results, Tryd.results67, go_sem]) rfl ⟨rfl, rfl⟩
set_option linter.unusedSimpArgs false in
set_option maxRecDepth 20000 in
set_option maxHeartbeats 4000000 in
theorem sortf_one (A : Option Addr) (c n : Nat) (hn : n ≤ 1) (k : Value) (w : World) : Calls Tryd.prog 44 #[.slice A n c, k] w fun e w' => e = .returned (.tuple #[]) ∧ w' = w := by
  have hi := fun l => pdq_one A c n hn l k w
  rcases (by omega : n = 0 ∨ n = 1) with rfl | rfl
  · go_enter Tryd.func44, Tryd.ntmps44
    go_wp2_with fail
    refine (Tryd.bits_Len _ w (by decide) (by decide)).mono ?_
    rintro e w1 ⟨rfl, rfl⟩
    go_wp2_with fail
    refine (hi _).mono ?_
    rintro e w1 ⟨rfl, rfl⟩
    go_wp2
    go_end0
    exact ⟨rfl, rfl⟩
  · go_enter Tryd.func44, Tryd.ntmps44
    go_wp2_with fail
    refine (Tryd.bits_Len _ w (by decide) (by decide)).mono ?_
    rintro e w1 ⟨rfl, rfl⟩
    go_wp2_with fail
    refine (hi _).mono ?_
    rintro e w1 ⟨rfl, rfl⟩
    go_wp2
    go_end0
    exact ⟨rfl, rfl⟩
theorem sortsM_one {w : World} {g : Nat} : SortsM w g (fun l => l.length ≤ 1) (fun l l' => l' = l) := by
  intro W v l hb hl ho
  obtain ⟨A, c, rfl, -, -⟩ := ownsRow_form ho
  refine (sortf_one A c l.length hl _ W).mono ?_
  rintro e w1 ⟨rfl, rfl⟩
  exact ⟨rfl, l, rfl, rfl, ho, hb⟩
end Go.Proofs.YtgkpoopiamicnaaDoor
namespace Go.Proofs.YtgkpoopiamicnaaDoor
open Go.RowKit Go.Lib

def BoolPost (w : World) (b : Bool) (e : Ending) (w' : World) : Prop := e = .returned (.bool b) ∧ Below w.heap.size w w'
set_option linter.unusedSimpArgs false in
set_option maxRecDepth 20000 in
set_option maxHeartbeats 4000000 in
theorem texts_any (w : World) (A1 A2 : Option Addr) (n1 c1 n2 c2 : Nat) (l1 l2 : List ByteArray) (h1 : ReadS w w.heap.size A1 n1 l1) (h2 : ReadS w w.heap.size A2 n2 l2) (hn : n1 ≤ 9223372036854775807) :
    Calls Tryd.prog 24 #[.slice A1 n1 c1, .slice A2 n2 c2] w (BoolPost w (decide (l1 = l2))) := by
  have HL1 := Lib.hid h1.len; have HL2 := Lib.hid h2.len; have HR1 := Lib.hid h1; have HR2 := Lib.hid h2
  clear h1 h2
  go_enter Tryd.func24, Tryd.ntmps24
  by_cases hne : n1 = n2
  · subst hne
    go_wp2
    go_loopw [5] (fun i wr => ∃ j : Nat, j ≤ n1 ∧ i = .int .i64 j ∧ l1.take j = l2.take j ∧ Below w.heap.size w wr) (fun i _ => n1 - (RowKit.intOf i).toNat)
    case atStart => exact ⟨0, by omega, rfl, by simp, Below.refl _ _⟩
    case round =>
      obtain ⟨j, hj, rfl, heq, hb⟩ := hrel
      have HB := Lib.hid hb; have HEQ := Lib.hid heq
      clear hb heq
      by_cases hlt : j < n1
      · have hjI : (j : Int) < (n1 : Int) := by omega
        have hj1 : j < l1.length := by rw [HL1.out]; exact hlt
        have hj2 : j < l2.length := by rw [HL2.out]; exact hlt
        obtain ⟨ad1, rfl, had1, hc1⟩ := HR1.out.at_ (k := j) hj1
        obtain ⟨ad2, rfl, had2, hc2⟩ := HR2.out.at_ (k := j) hj2
        have hd1 := (HB.out.cell (p := ad1.add j) (by rw [block_of_add]; exact had1)).trans hc1
        have hd2 := (HB.out.cell (p := ad2.add j) (by rw [block_of_add]; exact had2)).trans hc2
        have ht1 := List.take_succ_eq_append_getElem hj1
        have ht2 := List.take_succ_eq_append_getElem hj2
        have hx1 : l1[j]? = some l1[j] := List.getElem?_eq_getElem hj1
        have hx2 : l2[j]? = some l2[j] := List.getElem?_eq_getElem hj2
        generalize l1[j] = x at *
        generalize l2[j] = y at *
        have HT1 := Lib.hid ht1; have HT2 := Lib.hid ht2; have HX1 := Lib.hid hx1; have HX2 := Lib.hid hx2
        clear hc1 hc2 had1 had2 ht1 ht2 hx1 hx2 hj1 hj2
        go_upto_region 6 with fail
        refine wp_region_held_drew (S := (fun W => W.cell? (ad1.add j) = some (.string x) ∧ W.cell? (ad2.add j) = some (.string y))) (by kernel_rfl) ?_ (fun hHeld => ?_)
        · (try dsimp only)
          exact ⟨hd1, hd2⟩
        refine wpAnyH_take (i := 0) (v := ?_) rfl (by kernel_rfl) (by kernel_rfl) (by kernel_rfl) (fun _ _ _ h => h) (Or.inl ⟨by rfl, ?_⟩) (by assumption) ?_
        rotate_left
        · intro w hSw
          (try dsimp only at hSw)
          go_simp <;> with_reducible rfl
        try simp only [Act.put, List.getElem_toArray, List.getElem_cons_succ, List.getElem_cons_zero, List.setIfInBounds_toArray, List.set_cons_zero, List.set_cons_succ]
        refine wpAnyH_take (i := 1) (v := ?_) rfl (by kernel_rfl) (by kernel_rfl) (by kernel_rfl) (fun _ _ _ h => h) (Or.inl ⟨by rfl, ?_⟩) (by assumption) ?_
        rotate_left
        · intro w hSw
          (try dsimp only at hSw)
          go_simp <;> with_reducible rfl
        try simp only [Act.put, List.getElem_toArray, List.getElem_cons_succ, List.getElem_cons_zero, List.setIfInBounds_toArray, List.set_cons_zero, List.set_cons_succ]
        refine wpAnyH_take (i := 2) (v := ?_) rfl (by kernel_rfl) (by kernel_rfl) (by kernel_rfl) (fun _ _ _ h => h) (Or.inl ⟨by rfl, ?_⟩) (by assumption) ?_
        rotate_left
        · intro w hSw
          (try dsimp only at hSw)
          go_simp <;> with_reducible rfl
        try simp only [Act.put, List.getElem_toArray, List.getElem_cons_succ, List.getElem_cons_zero, List.setIfInBounds_toArray, List.set_cons_zero, List.set_cons_succ]
        refine wpAnyH_take (i := 3) (v := ?_) rfl (by kernel_rfl) (by kernel_rfl) (by kernel_rfl) (fun _ _ _ h => h) (Or.inl ⟨by rfl, ?_⟩) (by assumption) ?_
        rotate_left
        · intro w hSw
          (try dsimp only at hSw)
          go_simp <;> with_reducible rfl
        try simp only [Act.put, List.getElem_toArray, List.getElem_cons_succ, List.getElem_cons_zero, List.setIfInBounds_toArray, List.set_cons_zero, List.set_cons_succ]
        refine wpAnyH_take (i := 4) (v := ?_) rfl (by kernel_rfl) (by kernel_rfl) (by kernel_rfl) (fun _ _ _ h => h) (Or.inl ⟨by rfl, ?_⟩) (by assumption) ?_
        rotate_left
        · intro w hSw
          (try dsimp only at hSw)
          go_simp <;> with_reducible rfl
        try simp only [Act.put, List.getElem_toArray, List.getElem_cons_succ, List.getElem_cons_zero, List.setIfInBounds_toArray, List.set_cons_zero, List.set_cons_succ]
        refine wpAnyH_take (i := 5) (v := ?_) rfl (by kernel_rfl) (by kernel_rfl) (by kernel_rfl) (fun _ _ _ h => h) (Or.inl ⟨by rfl, ?_⟩) (by assumption) ?_
        rotate_left
        · intro w hSw
          (try dsimp only at hSw)
          go_simp <;> with_reducible rfl
        try simp only [Act.put, List.getElem_toArray, List.getElem_cons_succ, List.getElem_cons_zero, List.setIfInBounds_toArray, List.set_cons_zero, List.set_cons_succ]
        refine wpAnyH_take (i := 6) (v := ?_) rfl (by kernel_rfl) (by kernel_rfl) (by kernel_rfl) (fun _ _ _ h => h) (Or.inl ⟨by rfl, ?_⟩) (by assumption) ?_
        rotate_left
        · intro w hSw
          (try dsimp only at hSw)
          go_simp <;> with_reducible rfl
        try simp only [Act.put, List.getElem_toArray, List.getElem_cons_succ, List.getElem_cons_zero, List.setIfInBounds_toArray, List.set_cons_zero, List.set_cons_succ]
        refine wpAnyH_take (i := 7) (v := ?_) rfl (by kernel_rfl) (by kernel_rfl) (by kernel_rfl) (fun _ _ _ h => h) (Or.inl ⟨by rfl, ?_⟩) (by assumption) ?_
        rotate_left
        · intro w hSw
          (try dsimp only at hSw)
          go_simp <;> with_reducible rfl
        try simp only [Act.put, List.getElem_toArray, List.getElem_cons_succ, List.getElem_cons_zero, List.setIfInBounds_toArray, List.set_cons_zero, List.set_cons_succ]
        refine wpAnyH_take (i := 8) (v := ?_) rfl (by kernel_rfl) (by kernel_rfl) (by kernel_rfl) (fun _ _ _ h => h) (Or.inl ⟨by rfl, ?_⟩) (by assumption) ?_
        rotate_left
        · intro w hSw
          (try dsimp only at hSw)
          go_simp <;> with_reducible rfl
        try simp only [Act.put, List.getElem_toArray, List.getElem_cons_succ, List.getElem_cons_zero, List.setIfInBounds_toArray, List.set_cons_zero, List.set_cons_succ]
        refine wpAnyH_done (by kernel_rfl) ?_ _
        by_cases hxy : x = y
        · rw [show (x.toList == y.toList) = true by rw [beq_ba, decide_eq_true hxy]]
          clear hHeld hd1 hd2
          go_wp2
          go_roundw
          case rel => exact ⟨j + 1, by omega, by go_num, by rw [HT1.out, HT2.out, HEQ.out, hxy], HB.out.drew⟩
          case measure => simp [RowKit.intOf]; omega
        · rw [show (x.toList == y.toList) = false by rw [beq_ba, decide_eq_false hxy]]
          clear hHeld hd1 hd2
          go_wp2
          go_ret
          exact ⟨by rw [decide_eq_false fun e => hxy (by have h := HX1.out; rw [e, HX2.out] at h; exact (Option.some.inj h).symm)]; rfl, HB.out.drew⟩
      · obtain rfl : j = n1 := by omega
        go_wp2
        go_ret
        have hll : l1 = l2 := by
          have h := HEQ.out
          rwa [List.take_of_length_le (by rw [HL1.out]; exact Nat.le_refl _), List.take_of_length_le (by rw [HL2.out]; exact Nat.le_refl _)] at h
        exact ⟨by rw [decide_eq_true hll]; rfl, HB.out⟩
  · have hI : ¬ (n1 : Int) = (n2 : Int) := by omega
    go_wp2
    go_ret
    exact ⟨by rw [decide_eq_false fun e => hne (by rw [← HL1.out, ← HL2.out, e])]; rfl, Below.refl _ _⟩
set_option linter.unusedSimpArgs false in
set_option maxRecDepth 20000 in
set_option maxHeartbeats 4000000 in
theorem has_any (w : World) (A : Option Addr) (n c : Nat) (l : List ByteArray) (s : ByteArray) (h : ReadS w w.heap.size A n l) (hn : n ≤ 9223372036854775807) :
    Calls Tryd.prog 12 #[.slice A n c, .string s] w fun e w' => e = .returned (.bool (memB l s)) ∧ w' = w := by
  have HL := Lib.hid h.len; have HR := Lib.hid h
  clear h
  go_enter Tryd.func12, Tryd.ntmps12
  go_wp2
  go_loopw [5] (fun i wr => ∃ j : Nat, j ≤ n ∧ i = .int .i64 j ∧ s ∉ l.take j ∧ wr = w) (fun i _ => n - (RowKit.intOf i).toNat)
  case atStart => exact ⟨0, by omega, rfl, by simp, rfl⟩
  case round =>
    obtain ⟨j, hj, rfl, hno, rfl⟩ := hrel
    by_cases hlt : j < n
    · have hjI : (j : Int) < (n : Int) := by omega
      have hj1 : j < l.length := by rw [HL.out]; exact hlt
      obtain ⟨ad, rfl, had, hc⟩ := HR.out.at_ (k := j) hj1
      have ht := List.take_succ_eq_append_getElem hj1
      have hm : l[j] ∈ l := List.getElem_mem hj1
      generalize l[j] = x at *
      have hb := beq_ba x s
      by_cases hx : x = s
      · rw [decide_eq_true hx] at hb
        go_wp2
        go_ret
        exact ⟨by rw [show memB l s = true from memB_iff.2 (hx ▸ hm)]; rfl, rfl⟩
      · rw [decide_eq_false hx] at hb
        go_wp2
        go_roundw
        case rel => exact ⟨j + 1, by omega, by go_num, by rw [ht, List.mem_append, List.mem_singleton]; rintro (h | h); exact hno h; exact hx h.symm, trivial⟩
        case measure => simp [RowKit.intOf]; omega
    · obtain rfl : j = n := by omega
      rw [List.take_of_length_le (by rw [HL.out]; exact Nat.le_refl _)] at hno
      go_wp2
      go_ret
      refine ⟨?_, rfl⟩
      cases h : memB l s with
      | false => rfl
      | true => exact absurd (memB_iff.1 h) hno
end Go.Proofs.YtgkpoopiamicnaaDoor
namespace Go.Proofs.YtgkpoopiamicnaaDoor
open Go.RowKit Go.Lib

/-- A dictionary whose blocks lie at B or behind it; its alphabet lies below B. -/
def DictIn (w : World) (B : Nat) (v : Value) (gs : Grps) (L : List Art) : Prop := ∃ a g mb hv S f, v = wptr g ∧ DictM w B a g mb hv gs S L f ∧ GoodD gs L
def putL (gs : Grps) (L : List Art) (x : Art) : List Art := if artE gs L x = 0 then insA gs x L else L
section
variable {w W W' : World} {B : Nat} {v : Value} {gs : Grps} {L : List Art}
theorem DictIn.below (h : DictIn w B v gs L) (hb : Below w.heap.size w W) : DictIn W B v gs L := by
  obtain ⟨a, g, mb, hv, S, f, e, h1, h2⟩ := h
  exact ⟨a, g, mb, hv, S, f, e, h1.below hb, h2⟩
theorem DictIn.low (h : DictIn w B v gs L) : B ≤ w.heap.size := by
  obtain ⟨a, g, mb, hv, S, f, e, h1, h2⟩ := h
  exact h1.low.1
theorem DictIn.good (h : DictIn w B v gs L) : GoodD gs L := by
  obtain ⟨a, g, mb, hv, S, f, e, h1, h2⟩ := h
  exact h2
theorem DictIn.ptr (h : DictIn w B v gs L) : ∃ g, v = wptr g := by
  obtain ⟨a, g, mb, hv, S, f, e, h1, h2⟩ := h
  exact ⟨g, e⟩
def PutIn (w : World) (B : Nat) (v : Value) (gs : Grps) (L : List Art) (x : Art) (e : Ending) (w' : World) : Prop :=
  e = .returned (.int .i64 (artE gs L x)) ∧ DictIn w' B v gs (putL gs L x) ∧ Below B w w'
theorem put_in (h : DictIn w B v gs L) (hb : Below w.heap.size w W) (x : Art) (cs : List Value) (T : Nat → Prop) (hx : ArtF W T x cs) (hT : ∀ b, T b → b < W.heap.size ∧ (b < B ∨ w.heap.size ≤ b)) (hok : ArtOk x) :
    Calls Tryd.prog 13 #[v, aggM cs] W (PutIn W B v gs L x) := by
  obtain ⟨a, g, mb, hv, S, f, rfl, h1, h2⟩ := h
  have hTB : ∀ b, Turn g mb hv b → B ≤ b ∧ b < w.heap.size := fun b hb => by
    rcases hb with rfl | rfl | hb
    · exact ⟨h1.low.2.1, h1.lt⟩
    · exact ⟨h1.low.2.2, h1.map.lt⟩
    · exact h1.own.lt b hb
  refine (put_any (h1.below hb) h2 x cs T hx (fun b hb => (hT b hb).1) (fun b hb ht => by have := hT b hb; have := hTB b ht; omega) hok).mono ?_
  rintro e w' ⟨rfl, hno, hyes⟩
  have hBW : B ≤ W.heap.size := Nat.le_trans h1.low.1 hb.size
  refine ⟨rfl, ?_, ?_⟩
  · unfold putL
    by_cases he : artE gs L x = 0
    · rw [if_pos he]
      obtain ⟨hv', S', f', hd, -, -, -⟩ := hyes he
      exact ⟨a, g, mb, hv', S', f', rfl, hd, h2.put hok he⟩
    · rw [if_neg he]
      exact ⟨a, g, mb, hv, S, f, rfl, (h1.below hb).below (hno he), h2⟩
  · by_cases he : artE gs L x = 0
    · obtain ⟨hv', S', f', -, -, -, hc⟩ := hyes he
      exact hc.below (fun b hb => (hTB b hb).1) hBW
    · exact (hno he).mono hBW
theorem dnew_in (a : Nat) (w : World) (hA : Alph w a gs) (hG : GoodG gs) :
    Calls Tryd.prog 23 #[wptr a] w fun e w' => ∃ v, e = .returned (.tuple #[v, .int .i64 0]) ∧ DictIn w' w.heap.size v gs [] ∧ Below w.heap.size w w' := by
  refine (dnew_any a gs w w.heap.size (Nat.le_refl _) (fun w' hb => hA.below hb) hG).mono ?_
  rintro e w' ⟨g, mb, rfl, -, -, hd, hb⟩
  exact ⟨_, rfl, ⟨a, g, mb, _, _, _, rfl, hd, goodD_nil gs⟩, hb⟩
theorem list_in (h : DictIn w B v gs L) : Calls Tryd.prog 9 #[v] w (ListPost w L) := by
  obtain ⟨a, g, mb, hv, S, f, rfl, h1, h2⟩ := h
  exact list_any h1 h2
theorem len_in (h : DictIn w B v gs L) : Calls Tryd.prog 15 #[v] w fun e w' => e = .returned (.int .i64 L.length) ∧ w = w' := by
  obtain ⟨a, g, mb, hv, S, f, rfl, h1, h2⟩ := h
  exact len_any h1
theorem get_in (h : DictIn w B v gs L) (s : ByteArray) (hs : s.size ≤ 140737488351232) : Calls Tryd.prog 17 #[v, .string s] w (GetPost w (artOf L s) (thereB L s)) := by
  obtain ⟨a, g, mb, hv, S, f, rfl, h1, h2⟩ := h
  exact get_any h1 h2 s hs
theorem from_in (h : DictIn w B v gs L) (s : ByteArray) (hs : s.size ≤ 140737488351232) : Calls Tryd.prog 11 #[v, .string s] w (FromPost w (fromL L s) (fromE L s)) := by
  obtain ⟨a, g, mb, hv, S, f, rfl, h1, h2⟩ := h
  exact from_any h1 h2 s hs
theorem cycles_in (h : DictIn w B v gs L) : Calls Tryd.prog 10 #[v] w (CyclesPost w (cyclesL L (headsL L))) := by
  obtain ⟨a, g, mb, hv, S, f, rfl, h1, h2⟩ := h
  exact cycles_any h1 h2
theorem missing_one (h : DictIn w B v gs L) (hl : (missAll L (headsL L)).length ≤ 1) : Calls Tryd.prog 21 #[v] w fun e w' => ∃ v, e = .returned v ∧ TxF w' (NewS w w') (missAll L (headsL L)) v ∧ Below w.heap.size w w' := by
  obtain ⟨a, g, mb, hv, S, f, rfl, h1, h2⟩ := h
  refine (missing_any h1 h2 (fun l => l.length ≤ 1) (fun l l' => l' = l) (fun l hp => by rw [hp.length_eq]; exact hl) sortsM_one).mono ?_
  rintro e w' ⟨v, l, l', rfl, hp, rfl, htx, hb⟩
  have e1 : l' = missAll L (headsL L) := by
    generalize missAll L (headsL L) = m at *
    match m, hl with
    | [], _ => exact List.perm_nil.1 hp
    | [x], _ => exact List.perm_singleton.1 hp
  have e2 : compactS l' = l' := by
    rw [e1]
    generalize missAll L (headsL L) = m at *
    match m, hl with
    | [], _ => rfl
    | [x], _ => rfl
  rw [e2, e1] at htx
  exact ⟨v, rfl, htx, hb⟩
end
end Go.Proofs.YtgkpoopiamicnaaDoor
