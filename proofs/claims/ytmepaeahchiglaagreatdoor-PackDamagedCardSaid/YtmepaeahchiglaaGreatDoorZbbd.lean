/-
  Plain facts of layer 43: a pattern that was written is read. Conditions: none.
-/
import Derived.Test.YtmepaeahchiglaaGreatDoorZbas
import Derived.Test.YtmepaeahchiglaaGreatDoorZban
import Derived.Test.YtmepaeahchiglaaGreatDoorZbaw
import Derived.Test.YtmepaeahchiglaaGreatDoorZbbc
import Derived.Test.YtmepaeahchiglaaGreatDoorZbPjGh
namespace Go.Proofs.YtmepaeahchiglaaGreatDoor

mutual
def pt32 : Pt → Prop
  | .mk _ s _ _ _ l => ok32 s ∧ pts32 l
def pts32 : List Pt → Prop
  | [] => True
  | p :: l => pt32 p ∧ pts32 l
end
theorem pt32_mk {k : Int} {s : Snd} {neg : Bool} {lo hi : Int} {l : List Pt} : pt32 (.mk k s neg lo hi l) ↔ ok32 s ∧ pts32 l := by rw [pt32]
theorem pts32_cons {p : Pt} {l : List Pt} : pts32 (p :: l) ↔ pt32 p ∧ pts32 l := by rw [pts32]
theorem back_pats {get : Nat → Rdr (Pt × Nat)} {f : Nat} (h : ∀ p, ptOk p = true → pt32 p → ∀ left r, ptSize p ≤ left → left < f → get left (patB p ++ r) = some ((p, left - ptSize p), r)) : ∀ (l : List Pt) (left : Nat) (r : List Nat), ptsOk l = true → pts32 l → ptSizes l ≤ left → left < f →
    manyS get l.length left (patsB l ++ r) = some ((l, left - ptSizes l), r)
  | [], left, r, _, _, _, _ => by rw [patsB_nil, ptSizes_nil]; rfl
  | p :: l, left, r, h1, h2, h3, h4 => by
    rw [ptsOk_cons, Bool.and_eq_true] at h1
    rw [pts32_cons] at h2
    rw [ptSizes_cons] at h3 ⊢
    have hp := h p h1.1 h2.1 left (patsB l ++ r) (by omega) h4
    have hl := back_pats h l (left - ptSize p) r h1.2 h2.2 (by omega) (by omega)
    show thenR (get left) (fun x => thenR (manyS get l.length x.2) fun l r => some ((x.1 :: l.1, l.2), r)) (patsB (p :: l) ++ r) = _
    rw [patsB_cons, List.append_assoc, thenR_some hp, thenR_some hl, Nat.sub_sub]
theorem flag_back (b : Bool) (r : List Nat) : flagR (numB (if b then 1 else 0) ++ r) = some (b, r) := by
  unfold flagR
  cases b with
  | false => show thenR readN _ (numB 0 ++ r) = _; rw [thenR_some (readN_num (n := 0) (by decide) r)]; rfl
  | true => show thenR readN _ (numB 1 ++ r) = _; rw [thenR_some (readN_num (n := 1) (by decide) r)]; rfl
theorem patB_pos (p : Pt) : 0 < (patB p).length := by
  obtain ⟨k, s, neg, lo, hi, l⟩ := p
  rw [patB_mk, List.length_append]
  have := numB_pos k.toNat
  omega
theorem patsB_long : ∀ l : List Pt, l.length ≤ (patsB l).length
  | [] => Nat.zero_le _
  | p :: l => by
    rw [patsB_cons, List.length_append, List.length_cons]
    have := patB_pos p
    have := patsB_long l
    omega
theorem back_pat : ∀ (f : Nat), f ≤ 1000 → ∀ (p : Pt), ptOk p = true → pt32 p → ∀ (left : Nat) (r : List Nat), ptSize p ≤ left → left < f → patR f left (patB p ++ r) = some ((p, left - ptSize p), r)
  | 0, _, _, _, _, _, _, _, h => absurd h (Nat.not_lt_zero _)
  | f + 1, hf, .mk k s neg lo hi l, hok, h32, left, r, hsz, hlt => by
    rw [ptOk_mk, Bool.and_eq_true] at hok
    obtain ⟨hn, hl⟩ := hok
    rw [pt32_mk] at h32
    rw [ptSize_mk] at hsz ⊢
    obtain ⟨left, rfl⟩ : ∃ m, left = m + 1 := ⟨left - 1, by omega⟩
    rw [patR_succ, patB_mk]
    have hlen := ptSizes_len l
    have hparts := back_pats (f := f) (get := patR f) (fun p h1 h2 left r h3 h4 => back_pat f (by omega) p h1 h2 left r h3 h4) l left r hl h32.2 (by omega) (by omega)
    have hsub : left + 1 - (1 + ptSizes l) = left - ptSizes l := by omega
    rw [hsub]
    unfold nodeOk at hn
    unfold nodeR
    by_cases k1 : k = 1
    · rw [if_pos k1, Bool.and_eq_true, decide_eq_true_iff] at hn
      obtain ⟨⟨rfl, rfl, hl0⟩, _⟩ := hn
      obtain rfl : l = [] := List.length_eq_zero_iff.1 hl0
      subst k1
      rw [if_pos rfl, List.append_assoc, show Int.toNat 1 = 1 from rfl, thenR_some (readN_num (n := 1) (by decide) _), if_pos rfl, List.append_assoc, thenR_some (back_snd s _ h32.1), thenR_some (flag_back neg r), ptSizes_nil]
      rfl
    · rw [if_neg k1, Bool.and_eq_true, Bool.and_eq_true, decide_eq_true_iff] at hn
      obtain ⟨⟨rfl, hneg⟩, hn⟩ := hn
      obtain rfl : neg = false := by cases neg <;> simp at hneg ⊢
      rw [if_neg k1]
      by_cases k2 : k = 0 ∨ k = 2 ∨ k = 6
      · rw [if_pos k2, decide_eq_true_iff] at hn
        obtain ⟨rfl, rfl, hl0⟩ := hn
        obtain rfl : l = [] := List.length_eq_zero_iff.1 hl0
        rw [if_neg (by omega), if_neg (by omega), List.append_nil, thenR_some (readN_num (n := k.toNat) (by show k.toNat < 4294967296; omega) _), if_neg (by omega), if_neg (by omega), if_neg (by omega), ptSizes_nil, show ((k.toNat : Nat) : Int) = k by omega]
        rfl
      · rw [if_neg k2] at hn
        by_cases k3 : k = 3 ∨ k = 4
        · rw [if_pos k3, decide_eq_true_iff] at hn
          obtain ⟨rfl, rfl⟩ := hn
          have hcnt : countR (numB l.length ++ (patsB l ++ r)) = some (l.length, patsB l ++ r) := countR_num (by show l.length < 4294967296; omega) (by
            rw [List.length_append]
            have := patsB_long l
            omega)
          rw [if_pos k3, List.append_assoc, thenR_some (readN_num (n := k.toNat) (by show k.toNat < 4294967296; omega) _), if_neg (by omega), if_pos (by omega), List.append_assoc, thenR_some hcnt, thenR_some hparts, show ((k.toNat : Nat) : Int) = k by omega]
        · rw [if_neg k3] at hn
          by_cases k5 : k = 5
          · rw [if_pos k5, decide_eq_true_iff] at hn
            obtain ⟨hl1, h0, h32', hhi⟩ := hn
            subst k5
            rw [hl1] at hparts
            have hhi' : -1 ≤ hi ∧ hi ≤ 32 := by rcases hhi with h | h <;> omega
            rw [if_neg k3, if_pos rfl, List.append_assoc, show Int.toNat 5 = 5 from rfl, thenR_some (readN_num (n := 5) (by decide) _), if_neg (by decide), if_neg (by decide), if_pos rfl, List.append_assoc, thenR_some (readN_num (n := lo.toNat) (by show lo.toNat < 4294967296; omega) _), List.append_assoc, thenR_some (readN_num (n := (hi + 1).toNat) (by show (hi + 1).toNat < 4294967296; omega) _), thenR_some hparts, show ((lo.toNat : Nat) : Int) = lo by omega, show (((hi + 1).toNat : Nat) : Int) - 1 = hi by omega]
          · rw [if_neg k5] at hn
            cases hn
end Go.Proofs.YtmepaeahchiglaaGreatDoor
namespace Go.Proofs.YtmepaeahchiglaaGreatDoor

theorem strB_sbytes (s : ByteArray) : strB (sbytes s) = s := by
  apply ByteArray.ext
  apply Array.toList_inj.1
  show (((sbytes s).map UInt8.ofNat).toArray).toList = s.data.toList
  unfold sbytes
  rw [List.map_map]
  conv => rhs; rw [← List.map_id s.data.toList]
  exact List.map_congr_left fun u _ => by simp
theorem back_text (s : ByteArray) (r : List Nat) (h : s.size < 4294967296) : textR (textB s ++ r) = some (s, r) := by
  have hl : (sbytes s).length = s.size := by unfold sbytes; rw [List.length_map]; exact Array.length_toList
  unfold textR textB
  rw [List.append_assoc, thenR_some (countR_num h (by rw [List.length_append]; omega))]
  show some (strB ((sbytes s ++ r).take s.size), (sbytes s ++ r).drop s.size) = _
  rw [← hl, List.take_left, List.drop_left, strB_sbytes]
theorem back_out : Back ok32O outB outR := by
  rintro ⟨a, c, s, t, u⟩ r ⟨⟨h1, h2⟩, h3, h4, h5, h6, h7⟩
  simp only at h1 h2 h3 h4 h5 h6 h7
  unfold outR outB
  simp only
  rw [List.append_assoc, thenR_some (readN_num (n := (a + 1).toNat) (by show (a + 1).toNat < 4294967296; omega) _), List.append_assoc, thenR_some (readN_num h3 _), List.append_assoc, thenR_some (back_snd s _ h4), List.append_assoc, thenR_some (readN_num h5 _), thenR_some (readN_num (n := u.toNat) (by show u.toNat < 4294967296; omega) _)]
  rw [show (((a + 1).toNat : Nat) : Int) - 1 = a by omega, show ((u.toNat : Nat) : Int) = u by omega]
theorem out_pos (x : Ot) (_ : ok32O x) : 0 < (outB x).length := by
  unfold outB
  rw [List.length_append]
  have := numB_pos (x.src + 1).toNat
  omega
theorem back_side (p : Pt) (r : List Nat) (h : ptOk p = true) (h32 : pt32 p) (h40 : ptSize p ≤ 40) : sideR (patB p ++ r) = some (p, r) := by
  unfold sideR
  rw [thenR_some (back_pat 41 (by omega) p h h32 40 r h40 (by omega))]
theorem back_law (l : Lw) (r : List Nat) (hok : okLaw l) (hl : pt32 l.left) (hr : pt32 l.right) (hi : ∀ s ∈ l.ifs, ok32 s) : lawR (lawB l ++ r) = some (l, r) := by
  obtain ⟨nm, left, right, ifs, outs, mode⟩ := l
  obtain ⟨hnm, ⟨hpl, hsl⟩, ⟨hpr, hsr⟩, hif, hou, hok4, hmo, hmo2⟩ := hok
  simp only at hnm hpl hsl hpr hsr hif hou hok4 hmo hmo2 hl hr hi
  have ho : someR outR (outsB outs ++ (numB mode.toNat ++ r)) = some (outs, numB mode.toNat ++ r) := back_all back_out out_pos outs _ ⟨by show outs.length < 4294967296; omega, hok4⟩
  unfold lawR lawB
  simp only
  rw [List.append_assoc, thenR_some (back_text nm _ (by omega)), List.append_assoc, thenR_some (back_side left _ hpl hl hsl), List.append_assoc, thenR_some (back_side right _ hpr hr hsr), List.append_assoc, thenR_some (back_word ifs _ ⟨by show ifs.length < 4294967296; omega, hi⟩), List.append_assoc,
    thenR_some ho, thenR_some (readN_num (n := mode.toNat) (by show mode.toNat < 4294967296; omega) _)]
  rw [show ((mode.toNat : Nat) : Int) = mode by omega]
end Go.Proofs.YtmepaeahchiglaaGreatDoor
namespace Go.Proofs.YtmepaeahchiglaaGreatDoor
open Go.RowKit Go.Lib

section
variable {α : Type} {P : α → Prop} {put : α → List Nat} {get : Rdr α}
theorem back_list (h : Back P put get) (hne : ∀ x, P x → 0 < (put x).length) (l : List α) (r : List Nat) (h1 : l.length ≤ 1000) (h2 : ∀ x ∈ l, P x) : someR get (allB put l ++ r) = some (l, r) :=
  back_all h hne l r ⟨by show l.length < 4294967296; omega, h2⟩
theorem text_pos (s : ByteArray) : 0 < (textB s).length := by
  unfold textB
  rw [List.length_append]
  have := numB_pos s.size
  omega
end
def ok1k (s : ByteArray) : Prop := s.size ≤ 1000
theorem back_str : Back ok1k textB textR := fun s r h => back_text s r (by unfold ok1k at h; omega)
theorem back_nmd : Back (fun x : Nam => x.1.size ≤ 1000 ∧ ok32 x.2) nmdB nmdR := fun x r ⟨h1, h2⟩ => by
  obtain ⟨s, y⟩ := x
  unfold nmdB nmdR
  rw [List.append_assoc, thenR_some (back_str s _ h1), thenR_some (back_snd y _ h2)]
theorem back_mkd : Back (fun x : Mk => x.text.size ≤ 1000 ∧ is32 x.clear ∧ ok32 x.set) mkdB mkdR := fun x r ⟨h1, h2, h3⟩ => by
  obtain ⟨s, c, y⟩ := x
  unfold mkdB mkdR
  rw [List.append_assoc, thenR_some (back_str s _ h1), List.append_assoc, thenR_some (readN_num h2 _), thenR_some (back_snd y _ h3)]
theorem back_nd : Back (fun x : Nd => -1 ≤ x.1 ∧ x.1 < 4294967295 ∧ x.2.size ≤ 1000) ndB ndR := fun x r ⟨h1, h2, h3⟩ => by
  obtain ⟨k, s⟩ := x
  simp only at h1 h2 h3
  unfold ndB ndR
  rw [List.append_assoc, thenR_some (readN_num (n := (k + 1).toNat) (by show (k + 1).toNat < 4294967296; omega) _), thenR_some (back_str s _ h3)]
  rw [show (((k + 1).toNat : Nat) : Int) - 1 = k by omega]
theorem back_int : Back (fun x : Int => 0 ≤ x ∧ x < 4294967296) intB intR := fun x r ⟨h1, h2⟩ => by
  unfold intB intR
  rw [thenR_some (readN_num (n := x.toNat) (by show x.toNat < 4294967296; omega) _)]
  rw [show ((x.toNat : Nat) : Int) = x by omega]
theorem back_form : Back (fun f : Fm => (f.has = false → f.w = []) ∧ f.w.length ≤ 1000 ∧ ∀ s ∈ f.w, ok32 s) formB formR := fun f r ⟨h0, h1, h2⟩ => by
  obtain ⟨h, x⟩ := f
  simp only at h0 h1 h2
  unfold formB formR flagB
  rw [List.append_assoc, thenR_some (flag_back h _)]
  cases h with
  | true =>
    simp only [if_true]
    rw [thenR_some (back_word x _ ⟨by show x.length < 4294967296; omega, h2⟩)]
  | false =>
    rw [h0 rfl]
    rfl
theorem form_pos (f : Fm) : 0 < (formB f).length := by
  unfold formB flagB
  rw [List.length_append]
  have := numB_pos (if f.has then 1 else 0)
  omega
abbrev okFm (f : Fm) : Prop := (f.has = false → f.w = []) ∧ f.w.length ≤ 1000 ∧ ∀ s ∈ f.w, ok32 s
theorem back_en : Back (fun x : En => x.gloss.size ≤ 1000 ∧ x.forms.length ≤ 1000 ∧ ∀ f ∈ x.forms, okFm f) enB enR := fun x r ⟨h1, h2, h3⟩ => by
  obtain ⟨s, l⟩ := x
  unfold enB enR
  rw [List.append_assoc, thenR_some (back_str s _ h1), thenR_some (back_list back_form (fun x _ => form_pos x) l _ h2 h3)]
theorem en_pos (x : En) : 0 < (enB x).length := by
  unfold enB
  rw [List.length_append]
  have := text_pos x.gloss
  omega
theorem law_pos (l : Lw) : 0 < (lawB l).length := by
  unfold lawB
  rw [List.length_append]
  have := text_pos l.name
  omega
/-- The laws of a project as they are read. -/
abbrev okPl (l : Lw) : Prop := okLaw l ∧ pt32 l.left ∧ pt32 l.right ∧ ∀ s ∈ l.ifs, ok32 s
theorem back_lw : Back okPl lawB lawR := fun l r ⟨h1, h2, h3, h4⟩ => back_law l r h1 h2 h3 h4
theorem emptyF_of {l : List Fm} (h : emptyF l = true) : ∀ f ∈ l, f.has = false → f.w = [] := fun f hf h0 => by
  have := List.all_eq_true.1 h f hf
  rw [h0, Bool.false_or, decide_eq_true_eq] at this
  exact List.eq_nil_of_length_eq_zero this
theorem back_hist (h : Hs) (r : List Nat) (h1 : h.tree.length ≤ 1000) (h2 : ∀ x ∈ h.tree, -1 ≤ x.1 ∧ x.1 < 4294967295 ∧ x.2.size ≤ 1000) (h3 : h.laws.length ≤ 1000) (h4 : ∀ l ∈ h.laws, okPl l) (h5 : h.on.length = h.tree.length) (h6 : ∀ l ∈ h.on, l.length ≤ 1000 ∧ ∀ x ∈ l, 0 ≤ x ∧ x < 4294967296) :
    histR (allB ndB h.tree ++ (allB lawB h.laws ++ (h.on.flatMap (allB intB) ++ r))) = some (h, r) := by
  obtain ⟨t, l, o⟩ := h
  simp only at h1 h2 h3 h4 h5 h6
  unfold histR
  rw [thenR_some (back_list back_nd (fun x _ => by unfold ndB; rw [List.length_append]; have := text_pos x.2; omega) t _ h1 h2), thenR_some (back_list back_lw (fun x _ => law_pos x) l _ h3 h4)]
  rw [thenR_some (x := o) (r := r) (by
    rw [← h5]
    exact many_back (P := fun l : List Int => l.length ≤ 1000 ∧ ∀ x ∈ l, 0 ≤ x ∧ x < 4294967296) (put := allB intB) (fun l r hl => back_list back_int (fun x _ => numB_pos _) l r hl.1 hl.2) o r h6)]
theorem back_proj (p : Pj) (r : List Nat) (hk : PjOk p) (hon : p.on.length = p.tree.length) (hl : ∀ l ∈ p.laws, okPl l) (hp : ∀ f ∈ p.protos, f.has = false → f.w = []) (he : ∀ x ∈ p.entries, ∀ f ∈ x.forms, f.has = false → f.w = []) :
    projR (projB p ++ r) = some (p, r) := by
  obtain ⟨f, s, m, t, l, o, q, e⟩ := p
  obtain ⟨n1, n2, n3, n4, n5, n6, n7, n8, o1, o2, o3, o4, o5, o6, o7, o8⟩ := hk
  simp only at *
  unfold projR projB
  simp only [List.append_assoc]
  rw [thenR_some (back_list back_str (fun x _ => text_pos x) f _ n1 o1), thenR_some (back_list back_nmd (fun x _ => by unfold nmdB; rw [List.length_append]; have := text_pos x.1; omega) s _ n2 o2),
    thenR_some (back_list back_mkd (fun x _ => by unfold mkdB; rw [List.length_append]; have := text_pos x.text; omega) m _ n3 o3),
    thenR_some (back_hist ⟨t, l, o⟩ _ n4 o4 n5 hl hon o6),
    thenR_some (back_list back_form (fun x _ => form_pos x) q _ n7 fun x hx => ⟨hp x hx, o7 x hx⟩),
    thenR_some (back_list back_en (fun x _ => en_pos x) e _ n8 fun x hx => ⟨(o8 x hx).1, by have := (o8 x hx).2.1; omega, fun f hf => ⟨he x hx f hf, (o8 x hx).2.2 f hf⟩⟩)]
end Go.Proofs.YtmepaeahchiglaaGreatDoor
namespace Go.Proofs.YtmepaeahchiglaaGreatDoor

end Go.Proofs.YtmepaeahchiglaaGreatDoor
namespace Go.Proofs.YtmepaeahchiglaaGreatDoor

end Go.Proofs.YtmepaeahchiglaaGreatDoor
namespace Go.Proofs.YtmepaeahchiglaaGreatDoor
open Go.RowKit Go.Lib

mutual
theorem PatC.p32 {w : World} {B : Nat} : ∀ (p : Pt) (cs : List Value), PatC w B p cs → pt32 p
  | .mk k s neg lo hi l, cs, h => by
    rw [patC_mk] at h
    obtain ⟨A, c, xs, _, h2, _, _, _, h6⟩ := h
    exact pt32_mk.2 ⟨h2, PatsC.p32 l xs h6⟩
theorem PatsC.p32 {w : World} {B : Nat} : ∀ (l : List Pt) (xs : List Value), PatsC w B l xs → pts32 l
  | [], _, _ => by rw [pts32]; trivial
  | p :: l, xs, h => by
    rw [patsC_cons] at h
    obtain ⟨c1, c2, _, h1, h2⟩ := h
    exact pts32_cons.2 ⟨PatC.p32 p c1 h1, PatsC.p32 l c2 h2⟩
end
end Go.Proofs.YtmepaeahchiglaaGreatDoor
namespace Go.Proofs.YtmepaeahchiglaaGreatDoor
open Go.RowKit Go.Lib

theorem projE_att {p : Pj} (h : projE p = 0) : attE p.tree p.laws p.on p.protos p.entries = 0 := by
  unfold projE at h
  by_cases h1 : toolsE p = 0
  · rwa [if_pos h1] at h
  · rw [if_neg h1] at h; exact absurd h h1
theorem attE_empty {t : List Nd} {laws : List Lw} {on : List (List Int)} {protos : List Fm} {es : List En} (h : attE t laws on protos es = 0) : emptyF protos = true ∧ ∀ x ∈ es, emptyF x.forms = true := by
  have h0 := attE_small h
  rw [attE_eq] at h
  rw [if_pos h0.1, if_neg (by omega)] at h
  by_cases h3 : protos.length = es.length ∧ emptyF protos = true
  · refine ⟨h3.2, fun x hx => ?_⟩
    have h4 := h0.2.2.2.1
    unfold entsE at h4
    by_cases h1 : es.all (entOk (leafs t).length) = true
    · have h5 := List.all_eq_true.1 h1 x hx
      unfold entOk at h5
      rw [Bool.and_eq_true] at h5
      exact h5.2
    · rw [if_neg h1] at h4; cases h4
  · rw [if_neg h3] at h; cases h
theorem bodyB_small {p : Pj} (h : projE p = 0) (hk : PjOk p) : (bodyB p).length ≤ 900000000 := by
  obtain ⟨l1, l2, l3, l4, l5, l6, l7, -⟩ := hk.lens
  have hf := flatB_mem (put := allB intB) (m := 6000) (l := p.on) l6
  have h6 := hk.n6
  have h8 := (attE_small (projE_att h)).2.1
  have l8 := allB_len (put := enB) (m := 1100000) (l := p.entries) fun x hx => by have h8 := hk.o8 x hx; exact enB_len h8.1 h8.2.1 fun f hf => (h8.2.2 f hf).1
  unfold bodyB magB projB
  simp only [List.length_append, List.length_cons, List.length_nil]
  omega
theorem rowsC_all {α : Type} {P : World → Nat → α → List Value → Prop} {w : World} {B : Nat} : ∀ {l : List α} {xs : List Value}, RowsC P w B l xs → ∀ x ∈ l, ∃ cs, P w B x cs
  | [], _, _, x, hx => by cases hx
  | y :: l, _, ⟨c1, c2, _, h1, h2⟩, x, hx => by
    rcases List.mem_cons.1 hx with rfl | hx
    · exact ⟨c1, h1⟩
    · exact rowsC_all h2 x hx
/-- What the laws of a project in memory are made of. -/
def Law32 (p : Pj) : Prop := ∀ l ∈ p.laws, (∀ x ∈ l.outs, is32 x.clear ∧ ok32 x.set ∧ is32 x.take) ∧ pt32 l.left ∧ pt32 l.right ∧ ∀ s ∈ l.ifs, ok32 s
theorem ProjC.law32 {w : World} {B : Nat} {p : Pj} {cs : List Value} (h : ProjC w B p cs) : Law32 p := fun l hl => by
  obtain ⟨_, _, _, _, _, _, _, _, _, _, _, _, _, h5, _⟩ := h
  obtain ⟨_, _, _, _, _, _, h⟩ := h5
  obtain ⟨cs, hc⟩ := rowsC_all h l hl
  have h32 := law_s32 hc
  obtain ⟨q1, q2, A3, c3, A4, c4, _, h1, h2, _, _, h5, _⟩ := hc
  exact ⟨h32, h1.p32 _ _, h2.p32 _ _, h5⟩
theorem putP_ok {p : Pj} (h : projE p = 0) : putP p = bodyB p ++ fourB (sumB (bodyB p)) := by unfold putP; rw [if_pos h]
theorem bodyB_four (p : Pj) : 4 ≤ (bodyB p).length := by
  unfold bodyB magB
  simp only [List.length_append, List.length_cons, List.length_nil]
  omega
theorem back_whole {p : Pj} (h : projE p = 0) (hk : PjOk p) (hm : Law32 p) : projR (projB p) = some (p, []) := by
  have ha := projE_att h
  have hs := attE_small ha
  have he := attE_empty ha
  have hh := histE_parts hs.1
  have := back_proj p [] hk hh.2.2.2.1 (fun l hl => ⟨(hk.o5 l hl).1, (hm l hl).2⟩) (emptyF_of he.1) (fun x hx => emptyF_of (he.2 x hx))
  rwa [List.append_nil] at this
theorem get_put {p : Pj} (h : projE p = 0) (hk : PjOk p) (hm : Law32 p) : getP (putP p) = (p, 0) := by
  have hb := putP_ok h
  have hlen : (putP p).length = (bodyB p).length + 4 := by rw [hb, List.length_append]; rfl
  have hbl := bodyB_four p
  have htake : (putP p).take ((putP p).length - 4) = bodyB p := by rw [hlen, Nat.add_sub_cancel, hb, List.take_left]
  have hdrop : (putP p).drop ((putP p).length - 4) = fourB (sumB (bodyB p)) := by rw [hlen, Nat.add_sub_cancel, hb, List.drop_left]
  rw [getP_main (by omega) (by rw [hb]; rfl) (by rw [htake, hdrop]), htake]
  show afterR (projR (projB p)) = _
  rw [back_whole h hk hm]
  show (if projE p = 0 then (p, (0 : Int)) else _) = _
  rw [if_pos h]
theorem putP_no {p : Pj} (h : projE p ≠ 0) : putP p = [] := by unfold putP; rw [if_neg h]
theorem putP_len {p : Pj} (hk : projE p = 0 → PjOk p) : (putP p).length ≤ 1000000000 := by
  by_cases h : projE p = 0
  · rw [putP_ok h, List.length_append]
    have := bodyB_small h (hk h)
    show _ + 4 ≤ _
    omega
  · rw [putP_no h]; simp
theorem putP_bytes (p : Pj) : ∀ c ∈ putP p, c < 256 := by
  unfold putP
  split
  · refine app_lt (bodyB_lt p) ?_
    intro c hc
    unfold fourB at hc
    simp only [List.mem_cons, List.not_mem_nil, or_false] at hc
    rcases hc with rfl | rfl | rfl | rfl <;> omega
  · intro c hc; cases hc
/-! Memory. -/
theorem SlC.more {α : Type} {P : World → Nat → α → List Value → Prop} {k B B' : Nat} {w : World} {l : List α} {v : Value} (h : SlC P k w B l v) (hB : B ≤ B') (hi : ∀ x cs, P w B x cs → P w B' x cs) : SlC P k w B' l v :=
  h.imp (fun _ _ _ hr => hr.more hB) fun x _ cs => hi x cs
theorem ProjC.more {w : World} {B B' : Nat} {p : Pj} {cs : List Value} (h : ProjC w B p cs) (hB : B ≤ B') : ProjC w B' p cs := by
  obtain ⟨v1, v2, v3, v4, v5, v6, v7, v8, e, h1, h2, h3, h4, h5, h6, h7, h8⟩ := h
  have hf : ∀ f cs, FormC w B f cs → FormC w B' f cs := fun f cs ⟨v, e, h⟩ => ⟨v, e, h.more hB fun _ _ h => h⟩
  exact ⟨v1, v2, v3, v4, v5, v6, v7, v8, e, h1.more hB fun _ _ h => h, h2.more hB fun _ _ h => h, h3.more hB fun _ _ h => h, h4.more hB fun _ _ h => h, h5.more hB fun _ _ h => h.more hB, h6.more hB fun _ _ ⟨v, e, h⟩ => ⟨v, e, h.more hB fun _ _ h => h⟩, h7.more hB hf, h8.more hB fun _ _ ⟨v, e, h⟩ => ⟨v, e, h.more hB hf⟩⟩
end Go.Proofs.YtmepaeahchiglaaGreatDoor
