/-
  Layer 40: slices.Insert of one text into a row of one's own. Conditions: at most 100,000 texts.
-/
import Derived.Test.YtgkpoopiamicnaaDoorZaaj
import Derived.Test.YtgkpoopiamicnaaDoorShelf2
import Derived.Test.YtgkpoopiamicnaaDoorZaai
namespace Go.Proofs.YtgkpoopiamicnaaDoor
open Go.RowKit Go.Lib Go.Shelf

theorem blk_setCells {t : TypeId} {g : Nat} : ∀ (vs : List Value) (o : Nat) (w : World) (cs : Array Value), Blk w g t cs → ∃ cs', Blk (w.setCells g o vs) g t cs' ∧ cs'.size = cs.size
  | [], _, _, cs, h => ⟨cs, h, rfl⟩
  | v :: r, o, w, cs, h => by
    obtain ⟨cs', h1, h2⟩ := blk_setCells r (o + 1) (w.setCell ⟨g, o, none⟩ v) _ (h.set_ o v)
    exact ⟨cs', h1, by rw [h2]; simp⟩
theorem chg_setCells {S : Nat → Prop} {a : World} {g : Nat} : ∀ (vs : List Value) (o : Nat) (w : World), ChgS S a w → (S g ∨ a.heap.size ≤ g) → ChgS S a (w.setCells g o vs)
  | [], _, _, h, _ => h
  | v :: r, o, w, h, hg => chg_setCells r (o + 1) (w.setCell ⟨g, o, none⟩ v) (h.setCell (p := ⟨g, o, none⟩) hg v) hg
/-- A row known by its cells. -/
theorem own_of_cells {w : World} {base g n cap : Nat} {e : TypeId} {cs : Array Value} {xs : List Value} (h : Blk w g e cs) (hb : base ≤ g) (hn : n ≤ cap) (hc : cap ≤ maxLen) (hs : cs.size = cap) (hl : xs.length = n) (hx : ∀ j u, xs[j]? = some u → w.cell? ⟨g, j, none⟩ = some u) :
    w.ownsRow base e 1 (.slice (some ⟨g, 0, none⟩) n cap) n xs := by
  refine ⟨by omega, .inr ⟨g, cap, cs, rfl, hb, h, hn, hc, by omega, ?_⟩⟩
  apply List.ext_getElem?
  intro j
  rw [Nat.mul_one]
  rcases Nat.lt_or_ge j n with hj | hj
  · obtain ⟨u, hu⟩ : ∃ u, xs[j]? = some u := ⟨_, List.getElem?_eq_getElem (by omega)⟩
    have h1 := hx j u hu
    rw [h.cell j] at h1
    rw [List.getElem?_take_of_lt hj, Array.getElem?_toList, h1, hu]
  · rw [List.getElem?_eq_none (by rw [List.length_take]; omega), List.getElem?_eq_none (by omega)]
theorem drew_cell (w : World) (p : Addr) : w.drew.cell? p = w.cell? p := rfl
def InsPost (w : World) (base : Nat) (hv : Value) (l : List ByteArray) (e : Ending) (w' : World) : Prop :=
  ∃ v', e = .returned v' ∧ w'.ownsRow base 9 1 v' l.length (l.map Value.string) ∧ ChgS (fun b => hv.ownBlock = some b) w w' ∧ (v'.ownBlock = hv.ownBlock ∨ ∃ b, v'.ownBlock = some b ∧ w.heap.size ≤ b)
theorem insL_get {l : List ByteArray} {s : ByteArray} {i : Nat} (hi : i ≤ l.length) (j : Nat) : ((l.take i ++ s :: l.drop i).map Value.string)[j]? = if j < i then (l.map Value.string)[j]? else if j = i then some (.string s) else (l.map Value.string)[j - 1]? := by
  rw [List.getElem?_map]
  by_cases h1 : j < i
  · rw [if_pos h1, List.getElem?_append_left (by rw [List.length_take]; omega), List.getElem?_take_of_lt h1, List.getElem?_map]
  · rw [if_neg h1, List.getElem?_append_right (by rw [List.length_take]; omega), List.length_take, Nat.min_eq_left hi]
    by_cases h2 : j = i
    · rw [if_pos h2, h2, Nat.sub_self]; rfl
    · rw [if_neg h2, show j - i = (j - 1 - i) + 1 by omega, List.getElem?_cons_succ, List.getElem?_drop, show i + (j - 1 - i) = j - 1 by omega, List.getElem?_map]
set_option maxHeartbeats 1000000 in
theorem insertS_any (w : World) (base : Nat) (hv : Value) (l : List ByteArray) (i : Nat) (s : ByteArray) (vb : Nat) (ho : w.ownsRow base 9 1 hv l.length (l.map Value.string)) (hi : i ≤ l.length) (hl : l.length ≤ 100000) (hbase : base ≤ w.heap.size)
    (hvb : Blk w vb 9 #[.string s]) (hne : hv.ownBlock ≠ some vb) :
    Calls Tryd.prog 34 #[hv, .int .i64 i, .slice (some ⟨vb, 0, none⟩) 1 1] w (InsPost w base hv (l.take i ++ s :: l.drop i)) := by
  have hml : (l.map Value.string).length = l.length := List.length_map _
  have hnl : (l.take i ++ s :: l.drop i).length = l.length + 1 := by simp; omega
  have hvs : ∀ j v, [Value.string s][j]? = some v → w.cell? ⟨vb, 0 + j, none⟩ = some v := fun j v hj => by
    match j, hj with
    | 0, hj => rw [hvb.cell 0]; exact hj
  have h1v : ∀ v ∈ [Value.string s], v.oneCell' = true := fun v hv => by rw [List.mem_singleton] at hv; subst hv; rfl
  have h1c : ∀ v ∈ l.map Value.string, v.oneCell' = true := fun v hv => by obtain ⟨x, _, rfl⟩ := List.mem_map.1 hv; rfl
  have hg := insL_get (s := s) hi
  have hmx : 100001 ≤ maxLen := by unfold maxLen; omega
  -- a new row
  have fresh : ∀ (W : World) (cap : Nat) (cs : Array Value) (g : Nat), Blk W g 9 cs → base ≤ g → cs.size = cap → l.length + 1 ≤ cap → cap ≤ maxLen → (∀ j u, ((l.take i ++ s :: l.drop i).map Value.string)[j]? = some u → W.cell? ⟨g, j, none⟩ = some u) →
      W.ownsRow base 9 1 (.slice (some ⟨g, 0, none⟩) (l.length + 1) cap) (l.take i ++ s :: l.drop i).length ((l.take i ++ s :: l.drop i).map Value.string) := fun W cap cs g h1 h2 h3 h4 h5 h6 => by
    rw [hnl]
    exact own_of_cells h1 h2 h4 h5 h3 (by rw [List.length_map, hnl]) h6
  have grown : ∀ (A : Option Addr) (c : Nat), i = l.length → l.length ≤ c → c < l.length + 1 → (∀ k, (Value.slice A l.length c).ownBlock = some k → hv.ownBlock = some k) → (A = none → l.length = 0) → (∀ a, A = some a → ∀ j v, (l.map Value.string)[j]? = some v → w.cell? (a.add j) = some v) →
      Calls Tryd.prog 34 #[.slice A l.length c, .int .i64 i, .slice (some ⟨vb, 0, none⟩) 1 1] w (InsPost w base hv (l.take i ++ s :: l.drop i)) := fun A c hil hnc hroom _ hnil hcs => by
    subst hil
    refine (Any2.slices_Insert_string_end_grow Tryd.insertS A l.length c vb 0 1 1 (l.map Value.string) [.string s] w (by omega) hnc hroom (by omega) hml rfl hnil hcs hvs h1v).mono ?_
    rintro e w' ⟨rfl, rfl⟩
    show InsPost w base hv _ (.returned (.slice (some ⟨w.heap.size, 0, none⟩) (l.length + 1) (grownCap w (l.length + 1) c 9))) (w.drew.alloc (.cells ((l.map Value.string ++ [Value.string s]).toArray ++ Builtin.zeroCells (Value.string ⟨#[]⟩).cells (grownCap w (l.length + 1) c 9 - (l.length + 1))) 9))
    have hge := grownCap_ge w (l.length + 1) c 9
    have hle := grownCap_le_maxLen w (l.length + 1) c 9 (by omega)
    have hblk := Blk.new w.drew 9 ((l.map Value.string ++ [Value.string s]).toArray ++ Builtin.zeroCells (Value.string ⟨#[]⟩).cells (grownCap w (l.length + 1) c 9 - (l.length + 1)))
    refine ⟨_, rfl, fresh _ _ _ _ hblk hbase ?_ hge hle (fun j u hj => ?_), (ChgS.of_below ((Below.refl _ w).drew.alloc (Nat.le_refl _) _)), .inr ⟨w.heap.size, rfl, Nat.le_refl _⟩⟩
    · have hz := size_zeroCells (Value.string ⟨#[]⟩).cells (grownCap w (l.length + 1) c 9 - (l.length + 1))
      rw [show (Value.string ⟨#[]⟩).cells.size = 1 from rfl, Nat.mul_one] at hz
      rw [Array.size_append, hz]
      simp
      omega
    · refine Eq.trans (hblk.cell j) ?_
      have hjl : j < l.length + 1 := by
        have := (List.getElem?_eq_some_iff.1 hj).1
        rw [List.length_map, hnl] at this
        exact this
      rw [Array.getElem?_append_left (by simp; omega), List.getElem?_toArray]
      rw [hg j] at hj
      by_cases h1 : j < l.length
      · rw [if_pos h1] at hj
        rw [List.getElem?_append_left (by simp; omega)]
        exact hj
      · rw [if_neg h1, if_pos (by omega)] at hj
        rw [List.getElem?_append_right (by simp; omega), List.length_map, show j - l.length = 0 by omega]
        exact hj
  rcases ho.2 with ⟨rfl, h0⟩ | ⟨g, cap, cur, rfl, hbg, hgb, hnc, hcm, hcs, htk⟩
  · have hi0 : i = l.length := by omega
    have h00 : l.length = 0 := h0
    have := grown none 0 hi0 (by omega) (by omega) (fun k hk => hk) (fun _ => h0) (fun a e => by cases e)
    rw [h00] at this
    exact this
  · have hblk : Blk w g 9 cur := hgb
    have hcs' : ∀ j v, (l.map Value.string)[j]? = some v → w.cell? ⟨g, 0 + j, none⟩ = some v := fun j v hj => by
      rw [Nat.zero_add]
      have := ho.cells (g := g) rfl j v hj
      rwa [add_at] at this
    have hsome : ∀ j, j < cap → (w.cell? ⟨g, 0 + j, none⟩).isSome = true := fun j hj => by
      rw [Nat.zero_add, hblk.cell j, Array.getElem?_eq_getElem (by omega)]; rfl
    have hgv : g ≠ vb := fun e => hne (by rw [← e]; rfl)
    have hm63 : cap ≤ 9223372036854775807 := by unfold maxLen at hcm; omega
    by_cases hin : i = l.length
    · by_cases hroom : l.length + 1 ≤ cap
      · subst hin
        refine (Any2.slices_Insert_string_end_room Tryd.insertS g 0 l.length cap vb 0 1 1 [.string s] w (by omega) hroom hm63 rfl (fun j hj => ?_) (fun j hj => hblk.frozen _) hvs h1v).mono ?_
        · have := hsome (l.length + j) (by omega)
          rw [← Nat.add_assoc] at this
          exact this
        · rintro e w' ⟨rfl, rfl⟩
          obtain ⟨cs', hb', hs'⟩ := blk_setCells [.string s] (0 + l.length) w cur hblk
          refine ⟨_, rfl, fresh _ cap cs' g hb' hbg (by omega) hroom hcm (fun j u hj => ?_), chg_setCells _ _ _ (ChgS.refl _ _) (.inl rfl), .inl rfl⟩
          rw [hg j] at hj
          by_cases h1 : j < l.length
          · rw [if_pos h1] at hj
            rw [World.cell?_setCells_out g [.string s] (0 + l.length) w ⟨g, j, none⟩ (fun _ _ => .inl (by show j < 0 + l.length; omega))]
            have := hcs' j u hj
            rwa [Nat.zero_add] at this
          · rw [if_neg h1] at hj
            have hjl : j = l.length := by
              rcases Nat.lt_or_ge l.length j with h | h
              · rw [if_neg (by omega), List.getElem?_eq_none (by rw [List.length_map]; omega)] at hj; cases hj
              · omega
            rw [if_pos hjl] at hj
            have := World.cell?_setCells_in g [.string s] (0 + l.length) w (fun k hk => by
              have hk0 : k = 0 := by simp at hk; omega
              subst hk0
              have := hsome l.length (by omega)
              simpa using this) 0 (by simp)
            rw [hjl, show (⟨g, l.length, none⟩ : Addr) = ⟨g, 0 + l.length + 0, none⟩ by simp, this]
            exact hj
      · exact grown (some ⟨g, 0, none⟩) cap hin hnc (by omega) (fun k hk => hk) (fun e => by cases e) (fun a e j v hj => by
          injection e with e
          subst e
          exact ho.cells (g := g) rfl j v hj)
    · have hlt : i < l.length := by omega
      by_cases hroom : l.length + 1 ≤ cap
      · refine (Any2.slices_Insert_string_shift Tryd.insertS g 0 l.length cap i vb 0 1 1 (l.map Value.string) [.string s] w hlt (by omega) hroom hm63 (fun e => hgv e.symm) hml rfl hcs' (fun j hj => hsome j (by omega)) (fun j _ => hblk.frozen _) hvs h1c h1v
          9 9 1 cur.size (by unfold World.shape?; rw [show w.heap[vb]? = _ from hvb]; rfl) (by unfold World.shape?; rw [hgb]) (by omega) (hvb.frozen 0) (hvb.frozen 1)).mono ?_
        rintro e w' ⟨rfl, rfl⟩
        obtain ⟨cs1, hb1, hs1⟩ := blk_setCells ((l.map Value.string).drop i) (0 + (i + 1)) w.drew cur hblk.drew
        obtain ⟨cs2, hb2, hs2⟩ := blk_setCells [.string s] (0 + i) _ cs1 hb1
        refine ⟨_, rfl, fresh _ cap cs2 g hb2 hbg (by omega) hroom hcm (fun j u hj => ?_), chg_setCells _ _ _ (chg_setCells _ _ _ ((ChgS.refl _ w).drewN 1) (.inl rfl)) (.inl rfl), .inl rfl⟩
        rw [hg j] at hj
        have hin2 : ∀ k, k < ((l.map Value.string).drop i).length → (w.drew.cell? ⟨g, 0 + (i + 1) + k, none⟩).isSome = true := fun k hk => by
          rw [List.length_drop, hml] at hk
          have := hsome (i + 1 + k) (by omega)
          rw [← Nat.add_assoc] at this
          exact this
        by_cases h1 : j < i
        · rw [if_pos h1] at hj
          rw [World.cell?_setCells_out g [.string s] (0 + i) _ ⟨g, j, none⟩ (fun _ _ => .inl (by show j < 0 + i; omega)), World.cell?_setCells_out g _ (0 + (i + 1)) _ ⟨g, j, none⟩ (fun _ _ => .inl (by show j < 0 + (i + 1); omega))]
          have := hcs' j u hj
          rwa [Nat.zero_add] at this
        · rw [if_neg h1] at hj
          by_cases h2 : j = i
          · rw [if_pos h2] at hj
            subst h2
            have := World.cell?_setCells_in g [.string s] (0 + j) (w.drew.setCells g (0 + (j + 1)) ((l.map Value.string).drop j)) (fun k hk => by
              have hk0 : k = 0 := by simp at hk; omega
              subst hk0
              rw [World.cell?_setCells_out g _ (0 + (j + 1)) _ ⟨g, 0 + j + 0, none⟩ (fun _ _ => .inl (by show 0 + j + 0 < 0 + (j + 1); omega))]
              have := hsome j (by omega)
              simpa using this) 0 (by simp)
            rw [show (⟨g, j, none⟩ : Addr) = ⟨g, 0 + j + 0, none⟩ by simp, this]
            exact hj
          · rw [if_neg h2] at hj
            rw [World.cell?_setCells_out g [.string s] (0 + i) _ ⟨g, j, none⟩ (fun _ _ => .inr (by show 0 + i + 1 ≤ j; omega))]
            have hjl : j - 1 < l.length := by
              have := (List.getElem?_eq_some_iff.1 hj).1
              rw [hml] at this; exact this
            have := World.cell?_setCells_in g ((l.map Value.string).drop i) (0 + (i + 1)) w.drew hin2 (j - (i + 1)) (by rw [List.length_drop, hml]; omega)
            rw [show (⟨g, j, none⟩ : Addr) = ⟨g, 0 + (i + 1) + (j - (i + 1)), none⟩ by rw [show 0 + (i + 1) + (j - (i + 1)) = j by omega], this, ← hj]
            rw [← List.getElem?_eq_getElem, List.getElem?_drop, show i + (j - (i + 1)) = j - 1 by omega]
      · refine (Any2.slices_Insert_string_grow Tryd.insertS g 0 l.length cap i vb 0 1 1 (l.map Value.string) [.string s] w hlt (by omega) hnc (by omega) (by omega) hml rfl hcs' hvs h1c h1v).mono ?_
        rintro e w' ⟨rfl, rfl⟩
        obtain ⟨cap2, hcap2⟩ : ∃ c2, grownCap w (l.length + 1) cap 9 = c2 := ⟨_, rfl⟩
        have hge := grownCap_ge w (l.length + 1) cap 9
        have hle := grownCap_le_maxLen w (l.length + 1) cap 9 (by omega)
        rw [hcap2] at hge hle
        show InsPost w base (.slice (some ⟨g, 0, none⟩) l.length cap) _ (.returned (.slice (some ⟨w.heap.size, 0, none⟩) (l.length + 1) (grownCap w (l.length + 1) cap 9))) ((((w.alloc (.cells (((l.map Value.string).take i).toArray ++ Builtin.zeroCells (Value.string ⟨#[]⟩).cells (l.length + 1 - i) ++ Builtin.zeroCells (Value.string ⟨#[]⟩).cells (grownCap w (l.length + 1) cap 9 - (l.length + 1))) 9)).drew.setCells w.heap.size i [Value.string s]).drew).setCells w.heap.size (i + 1) ((l.map Value.string).drop i))
        rw [hcap2]
        obtain ⟨cs0, hcs0⟩ : ∃ cs0, ((l.map Value.string).take i).toArray ++ Builtin.zeroCells (Value.string ⟨#[]⟩).cells (l.length + 1 - i) ++ Builtin.zeroCells (Value.string ⟨#[]⟩).cells (cap2 - (l.length + 1)) = cs0 := ⟨_, rfl⟩
        have hsz0 : cs0.size = cap2 := by
          have z1 := size_zeroCells (Value.string ⟨#[]⟩).cells (l.length + 1 - i)
          have z2 := size_zeroCells (Value.string ⟨#[]⟩).cells (cap2 - (l.length + 1))
          rw [show (Value.string ⟨#[]⟩).cells.size = 1 from rfl, Nat.mul_one] at z1 z2
          rw [← hcs0, Array.size_append, Array.size_append, z1, z2]
          simp
          omega
        have hget0 : ∀ j, j < i → cs0[j]? = (l.map Value.string)[j]? := fun j hj => by
          rw [← hcs0, Array.append_assoc, Array.getElem?_append_left (by simp; omega), List.getElem?_toArray, List.getElem?_take_of_lt hj]
        rw [hcs0]
        clear hcs0
        have hb0 := (Blk.new w 9 cs0).drew
        obtain ⟨cs1, hb1, hs1⟩ := blk_setCells [Value.string s] i _ cs0 hb0
        obtain ⟨cs2, hb2, hs2⟩ := blk_setCells ((l.map Value.string).drop i) (i + 1) _ cs1 hb1.drew
        refine ⟨_, rfl, fresh _ cap2 cs2 w.heap.size hb2 hbase (by omega) hge hle (fun j u hj => ?_), chg_setCells _ _ _ ((chg_setCells _ _ _ (((ChgS.refl _ w).alloc _).drewN 1) (.inr (Nat.le_refl _))).drewN 1) (.inr (Nat.le_refl _)), .inr ⟨w.heap.size, rfl, Nat.le_refl _⟩⟩
        have hin1 : ∀ k, k < [Value.string s].length → ((w.alloc (.cells cs0 9)).drew.cell? ⟨w.heap.size, i + k, none⟩).isSome = true := fun k hk => by
          have hk0 : k = 0 := by simp at hk; omega
          subst hk0
          rw [hb0.cell (i + 0), Array.getElem?_eq_getElem (by omega)]; rfl
        have hin2 : ∀ k, k < ((l.map Value.string).drop i).length → (((w.alloc (.cells cs0 9)).drew.setCells w.heap.size i [Value.string s]).drew.cell? ⟨w.heap.size, i + 1 + k, none⟩).isSome = true := fun k hk => by
          rw [List.length_drop, hml] at hk
          rw [hb1.drew.cell (i + 1 + k), Array.getElem?_eq_getElem (by omega)]; rfl
        rw [hg j] at hj
        by_cases h1 : j < i
        · rw [if_pos h1] at hj
          rw [World.cell?_setCells_out w.heap.size _ (i + 1) _ ⟨w.heap.size, j, none⟩ (fun _ _ => .inl (by show j < i + 1; omega)), drew_cell, World.cell?_setCells_out w.heap.size _ i _ ⟨w.heap.size, j, none⟩ (fun _ _ => .inl h1), hb0.cell j, hget0 j h1]
          exact hj
        · rw [if_neg h1] at hj
          by_cases h2 : j = i
          · rw [if_pos h2] at hj
            subst h2
            rw [World.cell?_setCells_out w.heap.size _ (j + 1) _ ⟨w.heap.size, j, none⟩ (fun _ _ => .inl (by show j < j + 1; omega)), drew_cell]
            have := World.cell?_setCells_in w.heap.size [Value.string s] j _ hin1 0 (by simp)
            exact this.trans hj
          · rw [if_neg h2] at hj
            have hjl : j - 1 < l.length := by
              have := (List.getElem?_eq_some_iff.1 hj).1
              rw [hml] at this; exact this
            have := World.cell?_setCells_in w.heap.size ((l.map Value.string).drop i) (i + 1) _ hin2 (j - (i + 1)) (by rw [List.length_drop, hml]; omega)
            rw [show (⟨w.heap.size, j, none⟩ : Addr) = ⟨w.heap.size, i + 1 + (j - (i + 1)), none⟩ by rw [show i + 1 + (j - (i + 1)) = j by omega], this, ← hj]
            rw [← List.getElem?_eq_getElem, List.getElem?_drop, show i + (j - (i + 1)) = j - 1 by omega]
end Go.Proofs.YtgkpoopiamicnaaDoor
namespace Go.Proofs.YtgkpoopiamicnaaDoor
open Go.RowKit Go.Lib

theorem countP_at {α : Type} {p : α → Bool} : ∀ {l : List α} {i : Nat}, i ≤ l.length → (∀ k (hk : k < l.length), k < i → p l[k] = true) → (∀ k (hk : k < l.length), i ≤ k → p l[k] = false) → l.countP p = i
  | [], i, hi, _, _ => by simp at hi; simp [hi]
  | a :: l, 0, _, _, h2 => by
    rw [List.countP_eq_zero]
    intro b hb
    obtain ⟨k, hk, rfl⟩ := List.getElem_of_mem hb
    rw [h2 k hk (Nat.zero_le _)]
    decide
  | a :: l, i + 1, hi, h1, h2 => by
    rw [List.countP_cons_of_pos (show p a = true from h1 0 (by simp) (by omega)), countP_at (i := i) (by simpa using hi) (fun k hk hki => h1 (k + 1) (by simpa using hk) (by omega)) (fun k hk hki => h2 (k + 1) (by simpa using hk) (by omega))]
theorem headsL_len {L : List Art} : (headsL L).length = L.length := by unfold headsL; rw [List.length_map]
theorem GoodD.lt {gs : Grps} {L : List Art} (h : GoodD gs L) {i j : Nat} (hj : j < (headsL L).length) (hij : i < j) : ordT gs ((headsL L)[i]'(by omega)) (headsL L)[j] < 0 := List.pairwise_iff_getElem.1 h.sorted i j (by omega) hj hij
theorem GoodD.keyAt {gs : Grps} {L : List Art} (h : GoodD gs L) {i : Nat} (hi : i < (headsL L).length) : keyOk gs (headsL L)[i] := h.keys _ (List.getElem_mem hi)
/-- A head is there just if it stands at its place. -/
theorem place_found {gs : Grps} {L : List Art} (h : GoodD gs L) {t : ByteArray} (ht : keyOk gs t) {i : Nat} (hi : placeT gs L t = i) : (if hk : i < (headsL L).length then decide (ordT gs (headsL L)[i] t = 0) else false) = thereB L t := by
  have hd := ahead_drop (h.sorted.ahead (goodO gs) h.keys ht)
  have hd2 : (headsL L).drop i = (headsL L).filter (fun y => !decide (ordT gs y t < 0)) := by rw [← hi]; exact hd
  cases hth : thereB L t with
  | true =>
    unfold thereB at hth
    rw [memB_iff] at hth
    have hm : t ∈ (headsL L).drop i := by
      rw [hd2]
      refine List.mem_filter.2 ⟨hth, ?_⟩
      rw [(goodO gs).self t]; rfl
    have hlt : i < (headsL L).length := by
      rcases Nat.lt_or_ge i (headsL L).length with h1 | h1
      · exact h1
      · rw [List.drop_eq_nil_of_le h1] at hm; cases hm
    rw [dif_pos hlt, decide_eq_true_iff]
    obtain ⟨k, hk, hkt⟩ := List.getElem_of_mem hm
    rw [List.getElem_drop] at hkt
    by_cases h0 : k = 0
    · subst h0
      have hkt' : (headsL L)[i] = t := hkt
      rw [hkt']; exact (goodO gs).self t
    · rw [List.length_drop] at hk
      have h1 := h.lt (i := i) (j := i + k) (by omega) (by omega)
      rw [hkt] at h1
      have h2 : (headsL L)[i] ∈ (headsL L).drop i := by
        rw [List.drop_eq_getElem_cons hlt]; exact List.mem_cons_self
      rw [hd2] at h2
      have h3 := (List.mem_filter.1 h2).2
      rw [decide_eq_true h1] at h3
      cases h3
  | false =>
    by_cases hlt : i < (headsL L).length
    · rw [dif_pos hlt, decide_eq_false_iff_not]
      intro h0
      have e := (goodO gs).zero _ _ (h.keyAt hlt) ht h0
      have : thereB L t = true := by unfold thereB; rw [memB_iff, ← e]; exact List.getElem_mem hlt
      rw [hth] at this; cases this
    · rw [dif_neg hlt]
def SearchPost (w : World) (i : Nat) (b : Bool) (e : Ending) (w' : World) : Prop := e = .returned (.tuple #[.int .i64 i, .bool b]) ∧ Below w.heap.size w w'
set_option maxRecDepth 20000 in
set_option maxHeartbeats 4000000 in
theorem search_any {w : World} {B a g mb : Nat} {hv : Value} {gs : Grps} {S : Nat → Prop} {L : List Art} {f : ByteArray → Option Value} (h : DictM w B a g mb hv gs S L f) (hg : GoodD gs L) (t : ByteArray) (ht : keyOk gs t) :
    Calls Tryd.prog 32 #[hv, .string t, .func (.func 33) #[wptr g] #[]] w (SearchPost w (placeT gs L t) (thereB L t)) := by
  have hord := fun W (hb : Below w.heap.size w W) x => dorder_any (h.below hb) x t
  obtain ⟨A, c, e, hc1, hc2⟩ := ownsRow_form h.own
  subst e
  have hrs : ReadS w w.heap.size A L.length (headsL L) := Reads.of_own h.own
  have hlen := hg.len
  obtain ⟨pl, hpl0⟩ : ∃ p, placeT gs L t = p := ⟨_, rfl⟩
  obtain ⟨tb, htb⟩ : ∃ b, thereB L t = b := ⟨_, rfl⟩
  rw [hpl0, htb]
  have HPL0 := Lib.hid hpl0; have HTB := Lib.hid htb
  clear hpl0 htb
  have HL := Lib.hid (headsL_len (L := L)); have HORD := Lib.hid hord; have HRS := Lib.hid hrs; have HG := Lib.hid hg; have HT := Lib.hid ht
  have heg : ∀ args W, (callFunc 33 args).run Tryd.prog W = .ok (.enter 33 args) W := enters_of Tryd.func33 (by kernel_rfl) rfl
  clear h hg ht hord hrs
  generalize hnl : L.length = n at *
  have HNL := Lib.hid hnl
  clear hnl
  go_enter Tryd.func32, Tryd.ntmps32
  go_wp2
  go_loopw [9, 10] (fun i j wr => ∃ lo hi : Nat, i = .int .i64 lo ∧ j = .int .i64 hi ∧ lo ≤ hi ∧ hi ≤ n ∧ (∀ k (hk : k < (headsL L).length), k < lo → ordT gs (headsL L)[k] t < 0) ∧ (∀ k (hk : k < (headsL L).length), hi ≤ k → 0 ≤ ordT gs (headsL L)[k] t) ∧ Below w.heap.size w wr) (fun i j _ => (RowKit.intOf j).toNat - (RowKit.intOf i).toNat)
  case atStart => exact ⟨0, n, rfl, rfl, by omega, by omega, fun k _ h => absurd h (by omega), fun k hk h => absurd hk (by have := HL.out; omega), Below.refl _ _⟩
  case round =>
    obtain ⟨lo, hi, rfl, rfl, hlh, hhn, h1, h2, hb⟩ := hrel
    have H1 := Lib.hid h1; have H2 := Lib.hid h2; have HB := Lib.hid hb
    clear h1 h2 hb
    by_cases hlt : lo < hi
    · have hltI : (lo : Int) < (hi : Int) := by omega
      have hml : (lo + hi) / 2 < (headsL L).length := by have := HL.out; omega
      obtain ⟨ad, rfl, had, hcell⟩ := (show ReadS wr w.heap.size A n (headsL L) from HRS.out.below HB.out).at_ (k := (lo + hi) / 2) hml
      have hcw : wr.cell? (ad.add ((lo + hi) / 2)) = some (.string (headsL L)[(lo + hi) / 2]) := hcell
      have hordx := HORD.out wr HB.out (headsL L)[(lo + hi) / 2]
      obtain ⟨r, hr⟩ : ∃ r, ordT gs (headsL L)[(lo + hi) / 2] t = r := ⟨_, rfl⟩
      rw [hr] at hordx
      obtain ⟨x, hx⟩ : ∃ x, (headsL L)[(lo + hi) / 2] = x := ⟨_, rfl⟩
      have HR := Lib.hid hr
      rw [hx] at hcw hordx
      clear hr hx hcell
      by_cases hneg : r < 0
      · go_wp2_with fail
        refine hordx.mono ?_
        rintro e w2 ⟨rfl, hb2⟩
        go_wp2
        go_roundw
        case rel =>
          refine ⟨(lo + hi) / 2 + 1, hi, by rw [show ((lo : Int) + (hi : Int)) / 2 + 1 = (((lo + hi) / 2 + 1 : Nat) : Int) by omega], rfl, by omega, hhn, fun k hk hk2 => ?_, H2.out, HB.out.trans (hb2.mono HB.out.size)⟩
          rcases Nat.lt_or_ge k ((lo + hi) / 2) with h3 | h3
          · exact (goodO gs).lt_trans (HG.out.keyAt hk) (HG.out.keyAt (by have := HL.out; omega)) HT.out (HG.out.lt (j := (lo + hi) / 2) (by have := HL.out; omega) h3) (by rw [HR.out]; exact hneg)
          · obtain rfl : k = (lo + hi) / 2 := by omega
            rw [HR.out]; exact hneg
        case measure => simp [RowKit.intOf]; omega
      · go_wp2_with fail
        refine hordx.mono ?_
        rintro e w2 ⟨rfl, hb2⟩
        go_wp2
        go_roundw
        case rel =>
          refine ⟨lo, (lo + hi) / 2, rfl, by rw [show ((lo : Int) + (hi : Int)) / 2 = (((lo + hi) / 2 : Nat) : Int) by omega], by omega, by omega, H1.out, fun k hk hk2 => ?_, HB.out.trans (hb2.mono HB.out.size)⟩
          refine Int.not_lt.1 fun hlt2 => ?_
          rcases Nat.lt_or_ge ((lo + hi) / 2) k with h3 | h3
          · have h4 := (goodO gs).lt_trans (HG.out.keyAt (by have := HL.out; omega)) (HG.out.keyAt hk) HT.out (HG.out.lt (i := (lo + hi) / 2) hk h3) hlt2
            rw [HR.out] at h4
            omega
          · obtain rfl : k = (lo + hi) / 2 := by omega
            rw [HR.out] at hlt2; omega
        case measure => simp [RowKit.intOf]; omega
    · obtain rfl : lo = hi := by omega
      have hpl : placeT gs L t = lo := countP_at (by have := HL.out; omega) (fun k hk hk2 => decide_eq_true (H1.out k hk hk2)) (fun k hk hk2 => decide_eq_false (Int.not_lt.2 (H2.out k hk hk2)))
      have hfd := place_found HG.out HT.out hpl
      rw [HTB.out] at hfd
      obtain rfl : pl = lo := by rw [← HPL0.out]; exact hpl
      clear hpl
      by_cases hln : pl < n
      · have hlnI : (pl : Int) < (n : Int) := by omega
        have hml : pl < (headsL L).length := by have := HL.out; omega
        rw [dif_pos hml] at hfd
        obtain ⟨ad, rfl, had, hcell⟩ := (show ReadS wr w.heap.size A n (headsL L) from HRS.out.below HB.out).at_ (k := pl) hml
        have hordx := HORD.out wr HB.out (headsL L)[pl]
        obtain ⟨r, hr⟩ : ∃ r, ordT gs (headsL L)[pl] t = r := ⟨_, rfl⟩
        rw [hr] at hordx hfd
        obtain ⟨x, hx⟩ : ∃ x, (headsL L)[pl] = x := ⟨_, rfl⟩
        rw [hx] at hcell hordx
        subst hfd
        clear hr hx
        go_wp2_with fail
        refine hordx.mono ?_
        rintro e w2 ⟨rfl, hb2⟩
        go_wp2
        go_ret2
        exact ⟨rfl, HB.out.trans (hb2.mono HB.out.size)⟩
      · have hlnI : ¬ (pl : Int) < (n : Int) := by omega
        rw [dif_neg (by have := HL.out; omega)] at hfd
        subst hfd
        go_wp2
        go_ret2
        exact ⟨rfl, HB.out⟩
end Go.Proofs.YtgkpoopiamicnaaDoor
