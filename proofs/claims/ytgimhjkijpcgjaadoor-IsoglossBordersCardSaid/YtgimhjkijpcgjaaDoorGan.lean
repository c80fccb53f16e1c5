/-
  layer 37: Regions and Borders of the program. Conditions: a map of New, or nil; lists that are read.
-/
import Derived.Test.YtgimhjkijpcgjaaDoorIsN
import Derived.Maps.Own
import Derived.Maps.OwnSet
import Derived.Maps.OwnOps
namespace Go.Proofs.YtgimhjkijpcgjaaDoor
open Go.RowKit Go.Lib

def regE (R : List Rd) (vs : List Int) : List (Nat × Nat) := openE R fun x => !cutB vs x
def borE (R : List Rd) (l : List (List Int)) (least : Int) : List (Nat × Nat) := openE R fun x => decide ((bundN l x : Int) < least)
def regV (om : Option Pts) (vs : List Int) : List Int := if chkN (lenO om) [vs] = 0 then lbI (lenO om) (regE (roadsO om) vs) else []
def borV (om : Option Pts) (l : List (List Int)) (least : Int) : List Int := if chkN (lenO om) l = 0 then lbI (lenO om) (borE (roadsO om) l least) else []
theorem regions1_any (bx : Nat) (x : Rd) (A : Option Addr) (n c : Nat) (vs : List Int) (W : World) (hb : Blk W bx 26 #[.slice A n c]) (hv : ReadI W W.heap.size A n vs) (hx : InR n x) :
    Calls Tryd.prog 51 #[roadA x, .pointer (some ⟨bx, 0, none⟩)] W fun e w' => e = .returned (.bool (!cutB vs x)) ∧ Below W.heap.size W w' := by
  have hal : Below W.heap.size W (W.alloc (.cells #[.int .i64 x.1, .int .i64 x.2.1, .int .i64 x.2.2] 71)) := (Below.refl _ W).alloc (Nat.le_refl _) _
  have hxb := Blk.new W 71 #[.int .i64 x.1, .int .i64 x.2.1, .int .i64 x.2.2]
  have hcut := cut_any x A n c vs _ (hv.later hal) hx
  have c0 := hxb.cell 0; have c1 := hxb.cell 1; have c2 := hxb.cell 2
  have kb := (hb.below hal hb.lt).cell 0
  simp only [List.getElem?_toArray, List.getElem?_cons_zero, List.getElem?_cons_succ] at c0 c1 c2 kb
  have HAL := Lib.hid hal
  clear hal hxb hb hv hx
  go_enter Tryd.func51, Tryd.ntmps51
  go_wp2_with fail
  refine hcut.mono ?_
  rintro e w3 ⟨rfl, hb3⟩
  go_wp2
  go_ret
  exact ⟨rfl, HAL.out.trans (hb3.mono HAL.out.size)⟩
set_option maxRecDepth 20000 in
set_option maxHeartbeats 2000000 in
theorem regionsP_any (p : Option Addr) (om : Option Pts) (A : Option Addr) (n c : Nat) (vs : List Int) (w : World) (h : MapO w p om) (hG : NewO om) (hv : ReadI w w.heap.size A n vs) (hn : n ≤ c) (hc : c ≤ maxLen) :
    Calls Tryd.prog 15 #[.pointer p, .slice A n c] w (GivesE w (regV om vs) (chkN (lenO om) [vs])) := by
  have hb0 := (Below.refl _ w).alloc (Nat.le_refl _) (.cells #[.slice A n c] 26)
  have hbx := Blk.new w 26 #[.slice A n c]
  have hb1 := hb0.trans (((Below.refl _ (w.alloc (.cells #[.slice A n c] 26))).alloc (Nat.le_refl _) (.cells #[.slice A n c] 26)).mono hb0.size)
  have hck := check_any p om (some ⟨(w.alloc (.cells #[.slice A n c] 26)).heap.size, 0, none⟩) 1 1 [vs] _ (h.below hb1) (by rw [World.size_alloc (w := w.alloc (.cells #[.slice A n c] 26))]; exact readII_one _ A n c vs (hv.later hb0) hn hc) (plainA_at _) (by unfold maxLen; decide)
  rw [World.size_alloc (w := w)] at hck
  have hlb := fun W (hW : Below w.heap.size w W) (hN : 0 < lenO om) hop => labelsI_any p om W (h.below hW) hG hN 51 #[.pointer (some ⟨w.heap.size, 0, none⟩)] (enters_of Tryd.func51 (by kernel_rfl) rfl) (fun x => !cutB vs x) hop
  have hok := hG.okr
  have hlv := hv.len
  have hz : chkN (lenO om) [vs] = 0 → lenO om = n ∧ 0 < lenO om := fun e => ⟨by rw [← hlv]; exact ((chkN_zero e).2.2 vs (by simp)).symm, by have := (chkN_zero e).1; omega⟩
  have c0 := hbx.cell 0
  simp only [List.getElem?_toArray, List.getElem?_cons_zero] at c0
  have HBX := Lib.hid (hbx.alloc (.cells #[.slice A n c] 26)); have HOK := Lib.hid hok; have HV := Lib.hid hv; have HB1 := Lib.hid hb1; have HZ := Lib.hid hz; have HLB := Lib.hid hlb
  clear h hG hlb hok hv hb0 hb1 hz hbx
  unfold GivesE regV regE
  generalize lenO om = N at *
  generalize roadsO om = R at *
  obtain ⟨E, hE⟩ : ∃ E, chkN N [vs] = E := ⟨_, rfl⟩
  rw [hE] at hck ⊢
  by_cases h0 : E = 0
  · rw [h0] at hE hck ⊢
    rw [if_pos rfl]
    obtain ⟨rfl, hN⟩ := HZ.out hE
    clear HZ hE h0
    go_enter Tryd.func15, Tryd.ntmps15
    go_wp2_with fail
    refine hck.mono ?_
    rintro e w3 ⟨rfl, hb3⟩
    have hB3 := HB1.out.trans (hb3.mono HB1.out.size)
    have hl := HLB.out w3 hB3 hN (fun W x hx hW => regions1_any w.heap.size x A N c vs W ((HBX.out.below hb3 HBX.out.lt).below hW (Nat.lt_of_lt_of_le HBX.out.lt hb3.size)) (HV.out.later (hB3.trans (hW.mono hB3.size))) (.of_ok (HOK.out x hx)))
    have HB3 := Lib.hid hB3
    clear hb3 hB3 hck
    go_wp2_with fail
    refine hl.mono ?_
    rintro e w4 ⟨v, rfl, ho, hb4⟩
    go_wp2
    go_ret2
    exact ⟨_, rfl, own_mono ho HB3.out.size, HB3.out.trans (hb4.mono HB3.out.size)⟩
  · rw [if_neg h0]
    have h0B : (E != 0) = true := by simp [h0]
    clear HLB HOK HZ hE
    go_enter Tryd.func15, Tryd.ntmps15
    go_wp2_with fail
    refine hck.mono ?_
    rintro e w1 ⟨rfl, hb1⟩
    go_wp2
    go_ret2
    exact ⟨_, rfl, World.ownsRow_nil _ _ _ _, HB1.out.trans (hb1.mono HB1.out.size)⟩
set_option maxRecDepth 20000 in
set_option maxHeartbeats 2000000 in
theorem borders1_any (bl bi : Nat) (x : Rd) (A : Option Addr) (m c : Nat) (l : List (List Int)) (least : Int) (W : World) (hl : Blk W bl 43 #[.slice A m c]) (hi : Blk W bi 3 #[.int .i64 least]) (h : ReadII W W.heap.size A m l) (hx : ∀ vs ∈ l, InR vs.length x) (hm : m ≤ 1000000) :
    Calls Tryd.prog 57 #[roadA x, .pointer (some ⟨bl, 0, none⟩), .pointer (some ⟨bi, 0, none⟩)] W fun e w' => e = .returned (.bool (decide ((bundN l x : Int) < least))) ∧ Below W.heap.size W w' := by
  have hal : Below W.heap.size W (W.alloc (.cells #[.int .i64 x.1, .int .i64 x.2.1, .int .i64 x.2.2] 71)) := (Below.refl _ W).alloc (Nat.le_refl _) _
  have hxb := Blk.new W 71 #[.int .i64 x.1, .int .i64 x.2.1, .int .i64 x.2.2]
  have hald := hal.drew
  have hbun := bundle_any x A m c l _ (h.later hald) hx hm
  have c0 := hxb.cell 0; have c1 := hxb.cell 1; have c2 := hxb.cell 2
  have kl := (hl.below hal hl.lt).cell 0
  have ki := (hi.below hal hi.lt)
  have kic := ki.cell 0
  simp only [List.getElem?_toArray, List.getElem?_cons_zero, List.getElem?_cons_succ] at c0 c1 c2 kl kic
  have hkd : ∀ w3, Below (W.alloc (.cells #[.int .i64 x.1, .int .i64 x.2.1, .int .i64 x.2.2] 71)).drew.heap.size (W.alloc (.cells #[.int .i64 x.1, .int .i64 x.2.1, .int .i64 x.2.2] 71)).drew w3 → w3.cell? ⟨bi, 0, none⟩ = some (.int .i64 least) := fun w3 hb => by
    have := (Blk.below (Blk.drew ki) hb (Blk.lt (Blk.drew ki))).cell 0
    simpa using this
  have HAL := Lib.hid hald; have HKD := Lib.hid hkd
  clear hal hald hxb hl hi h hx ki hkd
  generalize bundN l x = b at *
  go_enter Tryd.func57, Tryd.ntmps57
  go_wp2
  go_region_with (first | (refine hbun.mono ?_; rintro e w3 ⟨rfl, hb3⟩; have kd := HKD.out _ hb3; have HB3 := Lib.hid hb3; clear hb3))
  all_goals
    go_wp2
    go_ret
    exact ⟨rfl, HAL.out.trans (HB3.out.mono HAL.out.size)⟩
set_option maxRecDepth 20000 in
set_option maxHeartbeats 2000000 in
theorem bordersP_any (p : Option Addr) (om : Option Pts) (A : Option Addr) (m c : Nat) (l : List (List Int)) (least : Int) (w : World) (h : MapO w p om) (hG : NewO om) (hl : ReadII w w.heap.size A m l) (hA : PlainA A) (hm : m ≤ maxLen) :
    Calls Tryd.prog 26 #[.pointer p, .slice A m c, .int .i64 least] w (GivesE w (borV om l least) (chkN (lenO om) l)) := by
  have hb0 := (Below.refl _ w).alloc (Nat.le_refl _) (.cells #[.slice A m c] 43)
  have hbx := (Blk.new w 43 #[.slice A m c]).alloc (.cells #[.int .i64 least] 3)
  have hbi := Blk.new (w.alloc (.cells #[.slice A m c] 43)) 3 #[.int .i64 least]
  have hb1 := hb0.trans (((Below.refl _ (w.alloc (.cells #[.slice A m c] 43))).alloc (Nat.le_refl _) (.cells #[.int .i64 least] 3)).mono hb0.size)
  rw [World.size_alloc] at hbi
  have hck := check_any p om A m c l _ (h.below hb1) (hl.later hb1) hA hm
  have hlb := fun W (hW : Below w.heap.size w W) (hN : 0 < lenO om) hop => labelsI_any p om W (h.below hW) hG hN 57 #[.pointer (some ⟨w.heap.size, 0, none⟩), .pointer (some ⟨w.heap.size + 1, 0, none⟩)] (enters_of Tryd.func57 (by kernel_rfl) rfl) (fun x => decide ((bundN l x : Int) < least)) hop
  have hok := hG.okr
  have hll := hl.1
  have c0 := hbx.cell 0
  simp only [List.getElem?_toArray, List.getElem?_cons_zero] at c0
  have HBX := Lib.hid hbx; have HBI := Lib.hid hbi; have HOK := Lib.hid hok; have HL := Lib.hid hl; have HB1 := Lib.hid hb1; have HLB := Lib.hid hlb
  clear h hG hlb hok hl hb0 hb1 hbx hbi
  unfold GivesE borV borE
  generalize lenO om = N at *
  generalize roadsO om = R at *
  obtain ⟨E, hE⟩ : ∃ E, chkN N l = E := ⟨_, rfl⟩
  rw [hE] at hck ⊢
  by_cases h0 : E = 0
  · rw [h0] at hE hck ⊢
    rw [if_pos rfl]
    obtain ⟨hN0, hm2, hin⟩ := chkN_zero hE
    have hN : 0 < N := by omega
    have hm3 : m ≤ 1000000 := by omega
    have HIN := Lib.hid (show ∀ x ∈ R, ∀ vs ∈ l, InR vs.length x from fun x hx vs hv => by rw [hin vs hv]; exact .of_ok (HOK.out x hx))
    clear hE h0 hN0 hm2 hin HOK hll
    go_enter Tryd.func26, Tryd.ntmps26
    go_wp2_with fail
    refine hck.mono ?_
    rintro e w3 ⟨rfl, hb3⟩
    have hB3 := HB1.out.trans (hb3.mono HB1.out.size)
    have hl := HLB.out w3 hB3 hN (fun W x hx hW => borders1_any w.heap.size (w.heap.size + 1) x A m c l least W ((HBX.out.below hb3 HBX.out.lt).below hW (Nat.lt_of_lt_of_le HBX.out.lt hb3.size)) ((HBI.out.below hb3 HBI.out.lt).below hW (Nat.lt_of_lt_of_le HBI.out.lt hb3.size)) (HL.out.later (hB3.trans (hW.mono hB3.size))) (HIN.out x hx) hm3)
    have HB3 := Lib.hid hB3
    clear hb3 hB3 hck
    go_wp2_with fail
    refine hl.mono ?_
    rintro e w4 ⟨v, rfl, ho, hb4⟩
    go_wp2
    go_ret2
    exact ⟨_, rfl, own_mono ho HB3.out.size, HB3.out.trans (hb4.mono HB3.out.size)⟩
  · rw [if_neg h0]
    have h0B : (E != 0) = true := by simp [h0]
    clear HLB HOK hE
    go_enter Tryd.func26, Tryd.ntmps26
    go_wp2_with fail
    refine hck.mono ?_
    rintro e w1 ⟨rfl, hb1⟩
    go_wp2
    go_ret2
    exact ⟨_, rfl, World.ownsRow_nil _ _ _ _, HB1.out.trans (hb1.mono HB1.out.size)⟩
end Go.Proofs.YtgimhjkijpcgjaaDoor
namespace Go.Proofs.YtgimhjkijpcgjaaDoor
open Go.RowKit Go.Lib Go.Maps Go.WideMaps

theorem keyI_ : Keyed Tryd.prog 3 := int_keyed Tryd.underlying3
abbrev okI (v : Int) : Prop := (Lit.int .i64 v).wf = true
def addK (ks : List Int) (v : Int) : List Int := if ks.contains v = true then ks else ks ++ [v]
def keysOf (l : List Int) : List Int := l.foldl addK []
theorem keysOf_snoc (l : List Int) (v : Int) : keysOf (l ++ [v]) = addK (keysOf l) v := by unfold keysOf; rw [List.foldl_append]; rfl
theorem addK_ne (ks : List Int) (v : Int) : addK ks v ≠ [] := by
  unfold addK
  split
  · rename_i h; intro e; subst e; simp at h
  · simp
theorem keysOf_one (l : List Int) : (keysOf l).length = 1 ↔ ∃ x l', l = x :: l' ∧ ∀ v ∈ l', v = x := by
  have key : ∀ (l' ks : List Int), ks ≠ [] → ((l'.foldl addK ks).length = 1 ↔ ∃ x, ks = [x] ∧ ∀ v ∈ l', v = x) := by
    intro l'
    induction l' with
    | nil =>
      intro ks hk
      rw [List.foldl_nil, List.length_eq_one_iff]
      simp
    | cons v l' ih =>
      intro ks hk
      rw [List.foldl_cons, ih _ (addK_ne ks v)]
      constructor
      · rintro ⟨x, h1, h2⟩
        unfold addK at h1
        by_cases hc : ks.contains v = true
        · rw [if_pos hc] at h1
          subst h1
          refine ⟨x, rfl, fun u hu => ?_⟩
          rcases List.mem_cons.1 hu with rfl | hu
          · simpa using hc
          · exact h2 u hu
        · rw [if_neg hc] at h1
          cases ks with
          | nil => exact absurd rfl hk
          | cons k ks => simp at h1
      · rintro ⟨x, rfl, h⟩
        refine ⟨x, ?_, fun u hu => h u (by simp [hu])⟩
        have := h v (by simp)
        subst this
        unfold addK
        rw [if_pos (by simp)]
  cases l with
  | nil => simp [keysOf]
  | cons x l' =>
    have : keysOf (x :: l') = l'.foldl addK [x] := rfl
    rw [this, key l' [x] (by simp)]
    constructor
    · rintro ⟨y, h1, h2⟩
      have : x = y := by simpa using h1
      subst this
      exact ⟨x, l', rfl, h2⟩
    · rintro ⟨y, l2, h1, h2⟩
      injection h1 with h1 h3
      subst h1; subst h3
      exact ⟨x, rfl, h2⟩
/-- A map of ints to ints, by its keys. -/
def MapII (w : World) (b n : Nat) (ks : List Int) : Prop :=
  ∃ D : DataW Unit, w.ownsMap Tryd.prog 3 (plainElem Tryd.prog 3) b n D ∧ IsMap D ∧ Maps.size D = ks.length ∧ ∀ v : Int, has D (.int .i64 v) = ks.contains v
theorem MapII.lt {w : World} {b n : Nat} {ks : List Int} (h : MapII w b n ks) : b < w.heap.size := by obtain ⟨D, h1, _⟩ := h; exact h1.lt
theorem MapII.made (w : World) : MapII (w.alloc (.map #[] 0)) w.heap.size 0 [] := ⟨.map [], World.ownsMap_made w _ _ _, isMap_empty, rfl, fun _ => rfl⟩
theorem MapII.kept {w w' : World} {b n : Nat} {ks : List Int} {row : Option Nat} (h : MapII w b n ks) (hg : w.grownBy w' row) (hne : some b ≠ row) : MapII w' b n ks := by
  obtain ⟨D, h1, h2⟩ := h; exact ⟨D, h1.kept hg hne, h2⟩
theorem MapII.below {w w' : World} {b n : Nat} {ks : List Int} (h : MapII w b n ks) (hb : Below w.heap.size w w') : MapII w' b n ks := h.kept (row := none) (grown_of_below hb none) (by simp)
theorem MapII.isMap {w : World} {b n : Nat} {ks : List Int} (h : MapII w b n ks) : ∃ es clock, w.heap[b]? = some (.map es clock) := by
  obtain ⟨D, ⟨es, clock, hb, _⟩, _⟩ := h; exact ⟨es, clock, hb⟩
theorem zero_int' (w : World) : (zeroValue 3).run Tryd.prog w = .ok (.int .i64 0) w := by kernel_rfl
theorem key_int {v : Int} (h : okI v) : keyOf Tryd.prog 3 (.int .i64 v) = some (.int .i64 v) := keyOf_int_mk Tryd.underlying3 h
theorem wpList_putII {w : World} {ops : Array Oper} {rest : List Oper} {o : Oper} {a : Act} {Q : Exit → Act → World → Prop}
    (hg : o.guard = none) (m x v : Operand) (hop : o.op = Op.mapUpdate 93 m x v) (b n : Nat) (ks : List Int) (hm : a.eval m = .map (some b)) (h : MapII w b n ks) (hn : n < maxLen)
    (k : Int) (hk : okI k) (i : Int) (hi : okI i) (hx : a.eval x = .int .i64 k) (hv : a.eval v = .int .i64 i)
    (hK : ∀ w', MapII w' b (n + 1) (addK ks k) → w.grownBy w' (some b) → wpList Tryd.prog ops Q rest (a.put o.dst undef) w') :
    wpList Tryd.prog ops Q (o :: rest) a w := by
  obtain ⟨D, h1, h2, h3, h4⟩ := h
  refine wpList_mapUpdate_own w hg m x v 93 hop 3 3 keyI_ Tryd.underlying93 _ b n D hm h1 hn (.int .i64 k) (.int .i64 i) (.int .i64 k) hx hv (key_int hk) (.lit (.int .i64 i)) [] (plainElem_int Tryd.underlying3 hi) ?_
  intro w1 hown hgrow
  have hlit : WideAt.IsKeyLit (.int .i64 k) := by first | trivial | rfl | (unfold WideAt.IsKeyLit; trivial)
  refine hK w1 ⟨_, hown, h2.put _ _, ?_, fun t => ?_⟩ hgrow
  · rw [size_put (h1.tidy keyI_), h4, h3]
    unfold addK
    by_cases hc : ks.contains k = true
    · rw [if_pos hc, if_pos hc]
    · rw [if_neg hc, if_neg hc, List.length_append]; rfl
  · by_cases e : t = k
    · subst e
      rw [has_put_same h2 hlit]
      unfold addK
      by_cases hc : ks.contains t = true
      · rw [if_pos hc, hc]
      · rw [if_neg hc]; simp
    · have hne : (Lit.int .i64 t) ≠ .int .i64 k := fun h => e (by injection h)
      rw [has_put_other hne, h4]
      unfold addK
      by_cases hc : ks.contains k = true
      · rw [if_pos hc]
      · rw [if_neg hc]; simp [e]
theorem MapII.look {w : World} {ops : Array Oper} {rest : List Oper} {o1 : Oper} {a : Act} {Q : Exit → Act → World → Prop} {b n : Nat} {ks : List Int} (h : MapII w b n ks) (g1 : o1.guard = none) (m x : Operand) (k : Int) (hk : okI k)
    (e1 : o1.op = Op.lookup 93 m x false) (hm : a.eval m = .map (some b)) (hx : a.eval x = .int .i64 k)
    (hK : ∀ c : Int, okI c → wpList Tryd.prog ops Q rest (a.put o1.dst (.int .i64 c)) w) : wpList Tryd.prog ops Q (o1 :: rest) a w := by
  obtain ⟨D, h1, _⟩ := h
  refine wpList_lookup_own_int w g1 m x _ e1 3 3 .i64 keyI_ Tryd.underlying93 Tryd.underlying3 (zero_int' w) b n D hm h1 _ _ hx (key_int hk) ?_
  intro c _ hw
  exact hK c hw
theorem MapII.len_ {w : World} {b n : Nat} {ks : List Int} (h : MapII w b n ks) (ty : TypeId) : (Builtin.len_ #[93] ty #[.map (some b)]).run Tryd.prog w = .ok (.int .i64 (ks.length : Nat)) w := by
  obtain ⟨D, h1, _, h3, _⟩ := h
  rw [h1.len Tryd.underlying93 ty, h3]
end Go.Proofs.YtgimhjkijpcgjaaDoor
namespace Go.Proofs.YtgimhjkijpcgjaaDoor
open Go.RowKit Go.Lib Go.Maps Go.WideMaps

/-- Blocks of cells that hold no maps stay. -/
def KeepB (W w' : World) : Prop := ∀ (g : Nat) (t : TypeId) (cs : Array Value), t ≠ 93 → Blk W g t cs → Blk w' g t cs
theorem KeepB.refl (W : World) : KeepB W W := fun _ _ _ _ h => h
theorem KeepB.trans {a b c : World} (h : KeepB a b) (k : KeepB b c) : KeepB a c := fun g t cs ht hb => k g t cs ht (h g t cs ht hb)
theorem KeepB.alloc (W : World) (o : Obj) : KeepB W (W.alloc o) := fun _ _ _ _ h => h.alloc o
theorem KeepB.drew (W : World) : KeepB W W.drew := fun _ _ _ _ h => h
theorem KeepB.below {W w' : World} (h : Below W.heap.size W w') : KeepB W w' := fun _ _ _ _ hb => hb.below h hb.lt
theorem KeepB.own {W w' : World} {base : Nat} {e : TypeId} {size n : Nat} {v : Value} {xs : List Value} (h : KeepB W w') (he : e ≠ 93) (ho : W.ownsRow base e size v n xs) : w'.ownsRow base e size v n xs := by
  refine ⟨ho.1, ?_⟩
  rcases ho.2 with hn | ⟨g, cap, cur, rfl, hb, hg, rest⟩
  · exact .inl hn
  · exact .inr ⟨g, cap, cur, rfl, hb, h g e cur he hg, rest⟩
theorem KeepB.set_ {W : World} {qA : Nat} {cs : Array Value} (h : Blk W qA 93 cs) (i : Nat) (u : Value) : KeepB W (W.setCell ⟨qA, i, none⟩ u) := fun _ _ _ ht hb => hb.far (p := ⟨qA, i, none⟩) (Blk.ne_ hb h ht) u
theorem KeepB.turn {W w' : World} {b n : Nat} {ks : List Int} (h : MapII W b n ks) (hg : W.grownBy w' (some b)) : KeepB W w' := fun g t cs _ hb => hb.grown hg (fun e => by
  obtain ⟨es, clock, hm⟩ := h.isMap
  injection e with e
  subst e
  unfold Blk at hb
  rw [hb] at hm; cases hm)
structure AroM (base : Nat) (W : World) (g8 qA N cnt : Nat) (us : Nat → Value) (ks : Nat → List Int) : Prop where
  b8 : Blk W g8 92 #[.slice (some ⟨qA, 0, none⟩) N N]
  row : Blk W qA 93 (usA N us)
  mp : ∀ k, k < N → (ks k = [] ∧ us k = .map none) ∨ (∃ b n, us k = .map (some b) ∧ base ≤ b ∧ n ≤ cnt ∧ MapII W b n (ks k))
  apart : ∀ j k, j < N → k < N → j ≠ k → us j = .map none ∨ us j ≠ us k
  hq : base ≤ qA
section
variable {base : Nat} {W w' : World} {g8 qA N cnt : Nat} {us : Nat → Value} {ks : Nat → List Int}
theorem AroM.later (h : AroM base W g8 qA N cnt us ks) (hb : Below W.heap.size W w') : AroM base w' g8 qA N cnt us ks :=
  ⟨h.b8.below hb h.b8.lt, h.row.below hb h.row.lt, fun k hk => (h.mp k hk).imp id fun ⟨b, n, h1, h2, h3, h4⟩ => ⟨b, n, h1, h2, h3, h4.below hb⟩, h.apart, h.hq⟩
theorem AroM.cell (h : AroM base W g8 qA N cnt us ks) {k : Nat} (hk : k < N) : W.cell? ⟨qA, k, none⟩ = some (us k) := (Blk.cell h.row k).trans (usA_get us hk)
/-- A map is made where there was none. -/
theorem AroM.make_ (h : AroM base W g8 qA N cnt us ks) {k : Nat} (hk : k < N) (hu : us k = .map none) (hks : ks k = []) (hbs : base ≤ W.heap.size) : AroM base ((W.alloc (.map #[] 0)).setCell ⟨qA, k, none⟩ (.map (some W.heap.size))) g8 qA N cnt (setU us k (.map (some W.heap.size))) ks := by
  have hrow := h.row.alloc (.map #[] 0)
  have hnew : MapII ((W.alloc (.map #[] 0)).setCell ⟨qA, k, none⟩ (.map (some W.heap.size))) W.heap.size 0 [] := (MapII.made W).kept (grown_setCell _ _ _) (fun e => by have := h.row.lt; injection e with e; simp at e; omega)
  refine ⟨(h.b8.alloc _).far (p := ⟨qA, k, none⟩) (Blk.ne_ h.b8 h.row (by decide)) _, by rw [← usA_set us hk]; exact hrow.set_ k _, fun j hj => ?_, fun i j hi hj hij => ?_, h.hq⟩
  · by_cases e : j = k
    · subst e
      rw [setU_same, hks]
      exact .inr ⟨_, 0, rfl, hbs, Nat.zero_le _, hnew⟩
    · rw [setU_other e]
      refine (h.mp j hj).imp id fun ⟨b, n, h1, h2, h3, h4⟩ => ⟨b, n, h1, h2, h3, ?_⟩
      refine (h4.below ((Below.refl _ _).alloc (Nat.le_refl _) _)).kept (grown_setCell _ _ _) (fun e => ?_)
      obtain ⟨es, clock, hm⟩ := h4.isMap
      injection e with e
      have hr := h.row
      unfold Blk at hr
      rw [e] at hm
      rw [hm] at hr; cases hr
  · have far : ∀ j, j < N → us j ≠ .map (some W.heap.size) := fun j hj e => by
      rcases h.mp j hj with ⟨_, h1⟩ | ⟨b, n, h1, _, _, h4⟩
      · rw [h1] at e; cases e
      · rw [h1] at e
        injection e with e
        injection e with e
        have := h4.lt
        omega
    by_cases ei : i = k
    · subst ei
      rw [setU_same, setU_other (Ne.symm hij)]
      exact .inr (fun e => far j hj e.symm)
    · rw [setU_other ei]
      by_cases ej : j = k
      · subst ej
        rw [setU_same]; exact .inr (far i hi)
      · rw [setU_other ej]; exact h.apart i j hi hj hij
/-- A map turns. -/
theorem AroM.put_ (h : AroM base W g8 qA N cnt us ks) {k b n : Nat} (hk : k < N) (hu : us k = .map (some b)) (hm0 : MapII W b n (ks k)) (hbb : base ≤ b) (hn : n ≤ cnt) {l : List Int} (hm : MapII w' b (n + 1) l) (hg : W.grownBy w' (some b)) : AroM base w' g8 qA N (cnt + 1) us (setU ks k l) := by
  have hk' := KeepB.turn hm0 hg
  have hrow : Blk w' qA 93 (usA N us) := h.row.grown hg (fun e => by
    obtain ⟨es, clock, hmm⟩ := hm0.isMap
    injection e with e
    have hr := h.row
    unfold Blk at hr
    rw [e] at hr
    rw [hmm] at hr; cases hr)
  refine ⟨hk' _ _ _ (by decide) h.b8, hrow, fun j hj => ?_, h.apart, h.hq⟩
  by_cases e : j = k
  · subst e
    rw [setU_same]
    exact .inr ⟨b, n + 1, hu, hbb, by omega, hm⟩
  · rw [setU_other e]
    refine (h.mp j hj).imp id fun ⟨b', n', h1, h2, h3, h4⟩ => ⟨b', n', h1, h2, by omega, h4.kept hg (fun e2 => ?_)⟩
    injection e2 with e2
    subst e2
    rcases h.apart j k hj hk e with h5 | h5
    · rw [h1] at h5; cases h5
    · exact h5 (by rw [h1, hu])
end
theorem reads_low {w w' : World} {B n : Nat} {A : Option Addr} {xs : List Int} (h : ReadI w B A n xs) (hb : Below B w w') : ReadI w' B A n xs := Reads.below h hb
set_option linter.unusedSimpArgs false in
set_option maxRecDepth 20000 in
set_option maxHeartbeats 4000000 in
theorem see_any (base g3 g6 g8 qA N cnt : Nat) (us : Nat → Value) (ks : Nat → List Int) (W : World) (AR A : Option Addr) (cR n c : Nat) (reg vs : List Int) (h : AroM base W g8 qA N cnt us ks) (b6 : Blk W g6 26 #[.slice AR N cR]) (b3 : Blk W g3 26 #[.slice A n c])
    (l6 : g6 < base) (l3 : g3 < base) (hreg : ReadI W base AR N reg) (hvs : ReadI W base A n vs) (a b k : Nat) (v : Int) (ha : reg[a]? = some (k : Int)) (hk : k < N) (hb : vs[b]? = some v) (hok : okI v) (hcnt : cnt < 1000000) (hbase : base ≤ W.heap.size) :
    Calls Tryd.prog 53 #[.int .i64 a, .int .i64 b, .pointer (some ⟨g6, 0, none⟩), .pointer (some ⟨g8, 0, none⟩), .pointer (some ⟨g3, 0, none⟩)] W fun e w' => e = .returned (.tuple #[]) ∧ (∃ us', AroM base w' g8 qA N (cnt + 1) us' (setU ks k (addK (ks k) v))) ∧ KeepB W w' ∧ Below base W w' := by
  have hla := hreg.len
  have hlb := hvs.len
  obtain ⟨ha1, ha2⟩ := List.getElem?_eq_some_iff.1 ha
  obtain ⟨hb1, hb2⟩ := List.getElem?_eq_some_iff.1 hb
  obtain ⟨ad, rfl, had, hca⟩ := hreg.at_ ha1
  obtain ⟨ae, rfl, hae, hcb⟩ := hvs.at_ hb1
  rw [ha2] at hca
  rw [hb2] at hcb
  have haI : (a : Int) < (N : Int) := by omega
  have hbI : (b : Int) < (n : Int) := by omega
  have hkI : (k : Int) < (N : Int) := by omega
  have k6 := b6.cell 0
  have k8 := h.b8.cell 0
  have k3 := b3.cell 0
  have kq := h.cell hk
  have fq := h.row.frozen k
  simp only [List.getElem?_toArray, List.getElem?_cons_zero] at k6 k8 k3
  have hnil := fun (X : World) (r : Option Nat) => run_eql_map_nil (P := Tryd.prog) X 93 3 3 r Tryd.underlying93
  have hmk := @run_makeMap Tryd.prog
  have H := Lib.hid h
  clear hreg hvs ha hb ha1 ha2 hb1 hb2 hla hlb
  rcases h.mp k hk with ⟨hks, hu⟩ | ⟨bm, nm, hu, hbm, hnm, hmm⟩
  · have HM := Lib.hid (H.out.make_ hk hu hks hbase)
    have HKB : Hid (KeepB W ((W.alloc (.map #[] 0)).setCell ⟨qA, k, none⟩ (.map (some W.heap.size)))) := Lib.hid ((KeepB.alloc W _).trans (KeepB.set_ (H.out.row.alloc _) k _))
    have hbl : Below base W ((W.alloc (.map #[] 0)).setCell ⟨qA, k, none⟩ (.map (some W.heap.size))) := ((Below.refl base W).alloc hbase _).setCell (p := ⟨qA, k, none⟩) H.out.hq _
    have HBL := Lib.hid hbl
    obtain ⟨W2, hW2⟩ : ∃ W2, (W.alloc (.map #[] 0)).setCell ⟨qA, k, none⟩ (.map (some W.heap.size)) = W2 := ⟨_, rfl⟩
    have j6 := HBL.out.cell (p := ⟨g6, 0, none⟩) l6
    rw [hu] at kq
    have kq2 : (W.alloc (.map #[] 0)).cell? ⟨qA, k, none⟩ = some (.map none) := (World.cell?_alloc_lt W _ ⟨qA, k, none⟩ H.out.row.lt).trans kq
    have fq2 := (H.out.row.alloc (.map #[] 0)).frozen k
    have hks2 := hks
    rw [hW2] at HM HKB HBL hbl
    obtain ⟨bm, nm, hu2, hbm, hnm, hmm⟩ : ∃ b n, setU us k (.map (some W.heap.size)) k = .map (some b) ∧ base ≤ b ∧ n ≤ cnt ∧ MapII W2 b n (ks k) := by
      rcases HM.out.mp k hk with ⟨_, h1⟩ | h1
      · rw [setU_same] at h1; cases h1
      · exact h1
    have m8 := HM.out.b8.cell 0
    have m3 := (HBL.out.cell (p := ⟨g3, 0, none⟩) l3).trans k3
    have mq := HM.out.cell hk
    have mb := (HBL.out.cell (p := ae.add b) (by rw [block_of_add]; exact hae)).trans hcb
    rw [hu2] at mq
    simp only [List.getElem?_toArray, List.getElem?_cons_zero] at m8
    have HMM := Lib.hid hmm; have HU2 := Lib.hid hu2
    clear h hu hks hks2 j6 hmm hbl hu2
    go_enter Tryd.func53, Tryd.ntmps53
    go_wp2
    refine region_tail 8 (by kernel_rfl) (by kernel_rfl) ?_
    simp only [List.take_succ_cons, List.take_zero, List.drop_succ_cons, List.drop_zero]
    still_step
    still_step
    still_step
    still_step
    still_step
    still_step
    still_step
    still_step
    refine wpStill_nil ?_
    have HMD := Lib.hid (HMM.out.below ((Below.refl _ _).drew))
    refine MapII.look (w := W2.drew) (b := bm) (n := nm) (ks := ks k) HMD.out rfl (.tmp 24) (.tmp 28) v hok rfl (by simp [Act.eval]) (by simp [Act.eval]) ?_
    intro cc hcc
    go_wp2_with (refine wpList_putII rfl (.tmp 24) (.tmp 28) (.tmp 30) rfl bm nm (ks k) (by simp [Act.eval]) HMD.out (by unfold maxLen; omega) v hok _ (wrap64_wf (cc + 1)) (by simp [Act.eval]) (by simp [Act.eval]) ?_; intro w9 hm9 hg9)
    go_end0
    have hg8 : W2.grownBy w9 (some bm) := ⟨hg9.os, hg9.tape, hg9.output, hg9.size, hg9.block⟩
    refine ⟨rfl, ⟨_, (HM.out).put_ hk HU2.out HMM.out hbm hnm hm9 hg8⟩, (HKB.out).trans (KeepB.turn HMM.out hg8), HBL.out.grown hg8 (Nat.le_trans hbase HBL.out.size) (fun r e => by injection e with e; omega)⟩
  · rw [hu] at kq
    have HMM := Lib.hid hmm; have HU2 := Lib.hid hu
    clear h hu hmm
    go_enter Tryd.func53, Tryd.ntmps53
    go_wp2
    refine region_tail 8 (by kernel_rfl) (by kernel_rfl) ?_
    simp only [List.take_succ_cons, List.take_zero, List.drop_succ_cons, List.drop_zero]
    still_step
    still_step
    still_step
    still_step
    still_step
    still_step
    still_step
    still_step
    refine wpStill_nil ?_
    have HMD := Lib.hid (HMM.out.below ((Below.refl _ _).drew))
    refine MapII.look (w := W.drew) (b := bm) (n := nm) (ks := ks k) HMD.out rfl (.tmp 24) (.tmp 28) v hok rfl (by simp [Act.eval]) (by simp [Act.eval]) ?_
    intro cc hcc
    go_wp2_with (refine wpList_putII rfl (.tmp 24) (.tmp 28) (.tmp 30) rfl bm nm (ks k) (by simp [Act.eval]) HMD.out (by unfold maxLen; omega) v hok _ (wrap64_wf (cc + 1)) (by simp [Act.eval]) (by simp [Act.eval]) ?_; intro w9 hm9 hg9)
    go_end0
    have hg8 : W.grownBy w9 (some bm) := ⟨hg9.os, hg9.tape, hg9.output, hg9.size, hg9.block⟩
    refine ⟨rfl, ⟨_, (H.out).put_ hk HU2.out HMM.out hbm hnm hm9 hg8⟩, (KeepB.turn HMM.out hg8), (Below.refl base W).grown hg8 hbase (fun r e => by injection e with e; omega)⟩
end Go.Proofs.YtgimhjkijpcgjaaDoor
