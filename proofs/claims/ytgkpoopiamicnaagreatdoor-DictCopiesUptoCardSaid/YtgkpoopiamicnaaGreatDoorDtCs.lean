/-
  Layer 40: what DictCopies leans on. Conditions: none.
-/
import Derived.Test.YtgkpoopiamicnaaGreatDoorDtSf
import Derived.Test.YtgkpoopiamicnaaGreatDoorDtCo
import Derived.Test.YtgkpoopiamicnaaGreatDoorDtRm
namespace Go.Proofs.YtgkpoopiamicnaaGreatDoor
open Go.RowKit Go.Lib

section
variable {w w0 W W' : World} {B : Nat} {v : Value} {gs : Grps} {L : List Art} {D : Nat → Prop}
theorem copy_at (h : DictAt w B v gs L D) : Calls Tryz.prog 20 #[v] w (CopyPost w gs L) := by
  obtain ⟨a, g, mb, hv, S, f, rfl, h1, h2, -⟩ := h
  exact copy_any h1 h2
theorem list_atz (h : DictAt w B v gs L D) : Calls Tryz.prog 21 #[v] w (ListZ w L) := by
  obtain ⟨a, g, mb, hv, S, f, rfl, h1, h2, -⟩ := h
  exact list_z h1 h2
theorem delA_none {L : List Art} {s : ByteArray} (h : thereB L s = false) : delA s L = L := by
  unfold delA
  rw [List.filter_eq_self]
  intro y hy
  have : y.head ≠ s := fun e => by
    rw [thereB_iff.2 ⟨y, hy, e⟩] at h
    cases h
  simp [this]
def RemAt (w : World) (B : Nat) (v : Value) (gs : Grps) (L : List Art) (D : Nat → Prop) (s : ByteArray) (e : Ending) (w' : World) : Prop :=
  e = .returned (.int .i64 (if thereB L s = true then 0 else 5)) ∧ DictAt w' B v gs (delA s L) D ∧ ChgS D w w'
theorem remove_at (h : DictAt w B v gs L D) (s : ByteArray) (hs : s.size ≤ 140737488351232) : Calls Tryz.prog 22 #[v, .string s] w (RemAt w B v gs L D s) := by
  have h0 := h
  obtain ⟨a, g, mb, hv, S, f, rfl, h1, h2, h3, h4, h5⟩ := h
  refine (remove_any h1 h2 s hs).mono ?_
  rintro e w' ⟨rfl, hno, hyes⟩
  refine ⟨rfl, ?_⟩
  cases hth : thereB L s with
  | false =>
    have hb := hno hth
    rw [delA_none hth]
    exact ⟨h0.below hb, .of_below hb⟩
  | true =>
    obtain ⟨v', f', hd, hvb, hc⟩ := hyes hth
    refine ⟨⟨a, g, mb, v', S, f', rfl, hd, h2.del, fun b hb => h3 b ?_, h4, fun b hb => ⟨(h5 b hb).1, Nat.lt_of_lt_of_le (h5 b hb).2 hc.size⟩⟩, hc.mono fun k _ hk => h3 k hk⟩
    rcases hb with hb | hb | hb
    · exact .inl hb
    · exact .inr (.inl hb)
    · rw [hvb] at hb; exact .inr (.inr hb)
/-- As it was, but for values in blocks of T. -/
structure LikeT (T : Nat → Prop) (w0 W : World) : Prop where
  ch : ChgS T w0 W
  there : ∀ q : Addr, T q.block → (∃ u, w0.cell? q = some u) → ∃ u, W.cell? q = some u
  soft : ∀ b, T b → SoftB w0 b → SoftB W b
variable {T : Nat → Prop}
theorem LikeT.refl : LikeT T w0 w0 := ⟨ChgS.refl _ _, fun _ _ h => h, fun _ _ h => h⟩
theorem LikeT.set_ (h : LikeT T w0 W) {p : Addr} (hp : T p.block) (u : Value) : LikeT T w0 (W.setCell p u) where
  ch := h.ch.setCell (.inl hp) u
  there q hq hc := by
    obtain ⟨x, hx⟩ := h.there q hq hc
    by_cases e : q = p
    · subst e
      exact ⟨u, World.cell?_setCell_same _ _ _ hx⟩
    · exact ⟨x, (World.cell?_setCell_other _ _ _ _ (fun e2 => e e2.symm)).trans hx⟩
  soft b hb hs q hq := by
    rw [World.frozen?_setCell]
    exact h.soft b hb hs q hq
theorem LikeT.below (h : LikeT T w0 W) (hT : ∀ b, T b → b < w0.heap.size) (hb : Below W.heap.size W W') : LikeT T w0 W' where
  ch := h.ch.new (T := fun _ => False) (.of_below hb) (fun _ _ h => h.elim)
  there q hq hc := by
    obtain ⟨x, hx⟩ := h.there q hq hc
    exact ⟨x, (hb.cell (Nat.lt_of_lt_of_le (hT _ hq) h.ch.size)).trans hx⟩
  soft b hb2 hs q hq := by
    have h1 := h.soft b hb2 hs q hq
    unfold World.frozen? at h1 ⊢
    rw [hb.block _ (by rw [hq]; exact Nat.lt_of_lt_of_le (hT _ hb2) h.ch.size)]
    exact h1
/-- An element of a list of one's own. -/
theorem m_at {l : List Art} {A : Option Addr} {n c : Nat} {xs : List Value} (h : GR ArtZ 4 42 w w0 l (.slice A n c) xs) {i : Nat} (hi : i < l.length) :
    ∃ ad A1 c1 A2 c2 A3 c3, A = some ad ∧ w.heap.size ≤ ad.block ∧ ad.block < w0.heap.size ∧ ArtZ w0 (fun b => w.heap.size ≤ b ∧ b < w0.heap.size ∧ b ≠ ad.block) l[i] [.string l[i].head, .slice A1 l[i].word.length c1, .slice A2 l[i].texts.length c2, .slice A3 l[i].see.length c3] ∧
      ∀ w' : World, (∀ q : Addr, q.block = ad.block → w'.cell? q = w0.cell? q) → ArtCells w' (ad.add (i * 4)) l[i] A1 c1 A2 c2 A3 c3 := by
  obtain ⟨cs, hx, -, hj⟩ := RowsF.at_ (F := ArtZ) (k := 4) (fun x cs h => ArtF.len h) h.rows i hi
  obtain ⟨A', c', e, -, -, hrow⟩ := own_rowF h.own
  injection e with e1 e2 e3
  subst e1 e2 e3
  obtain ⟨ad, rfl, hb, hc⟩ := hrow.2 (by omega)
  have hbl := h.own.lt ad.block hb
  obtain ⟨A1, c1, A2, c2, A3, c3, rfl⟩ := ArtF.form hx
  have hq : ∀ w' : World, (∀ q : Addr, q.block = ad.block → w'.cell? q = w0.cell? q) → ∀ j u, [Value.string l[i].head, .slice A1 l[i].word.length c1, .slice A2 l[i].texts.length c2, .slice A3 l[i].see.length c3][j]? = some u → w'.cell? ((ad.add (i * 4)).add j) = some u := fun w' hk j u hu => by
    rw [add_add', hk _ (by rw [block_of_add])]
    exact hc _ _ (hj j u hu)
  refine ⟨ad, A1, c1, A2, c2, A3, c3, rfl, hbl.1, hbl.2, ArtF.keep hx (fun b hb2 => ⟨⟨hb2.1.1, hb2.1.2.1, fun e => hb2.1.2.2 (by rw [e]; exact hb)⟩, hb2.2⟩) (fun _ _ => rfl), fun w' hk => ⟨?_, cell_flat (by decide) (hq w' hk 1 _ rfl), cell_flat (by decide) (hq w' hk 2 _ rfl), cell_flat (by decide) (hq w' hk 3 _ rfl)⟩⟩
  have := hq w' hk 0 _ rfl
  rwa [Addr.add_zero'] at this
/-- A cell of a word, as it can be written. -/
theorem wd_cell {S : Nat → Prop} {l : List Snd} {A : Option Addr} {n c k : Nat} (h : WdF w0 S l (.slice A n c)) (hk : k < l.length) :
    ∃ ad, A = some ad ∧ S ad.block ∧ (∃ u, w0.cell? (ad.add (k * 2)) = some u) ∧ ∃ u, w0.cell? ⟨(ad.add (k * 2)).block, (ad.add (k * 2)).off + 1, none⟩ = some u := by
  obtain ⟨A', c', e, -, hr⟩ := h
  injection e with e1 e2 e3
  subst e1
  have hx := hr.1
  obtain ⟨ad, e, hb, hc⟩ := hr.2 (by omega)
  have h0 : k * 2 < (l.flatMap sndC).length := by omega
  have h1 : k * 2 + 1 < (l.flatMap sndC).length := by omega
  refine ⟨ad, e, hb, ⟨_, hc _ _ (List.getElem?_eq_getElem h0)⟩, ⟨(l.flatMap sndC)[k * 2 + 1], ?_⟩⟩
  · have h2 := hc _ _ (List.getElem?_eq_getElem h1)
    rw [show ad.add (k * 2 + 1) = ad.add (k * 2 + (0 + 1)) from rfl, add_next] at h2
    exact h2
theorem tx_cell {S : Nat → Prop} {l : List ByteArray} {A : Option Addr} {n c k : Nat} (h : TxF w0 S l (.slice A n c)) (hk : k < l.length) :
    ∃ ad, A = some ad ∧ S ad.block ∧ w0.cell? (ad.add k) = some (.string l[k]) := by
  obtain ⟨A', c', e, -, hr⟩ := h
  injection e with e1 e2 e3
  subst e1
  obtain ⟨ad, e, hb, hc⟩ := hr.2 (by omega)
  refine ⟨ad, e, hb, hc _ _ ?_⟩
  rw [List.getElem?_map, List.getElem?_eq_getElem hk]
  rfl
end
theorem validS_one {ws : List Snd} (h : wordE ws = 0) : ∀ s ∈ ws, ¬ (s.1 = 1 ∧ s.2 = 1) := fun s hs ⟨h1, h2⟩ => by
  unfold wordE at h
  split at h
  · omega
  · split at h
    · rename_i ha
      have hv := List.all_eq_true.1 ha s hs
      unfold validS at hv
      rw [h1, h2] at hv
      revert hv
      decide
    · omega
end Go.Proofs.YtgkpoopiamicnaaGreatDoor
