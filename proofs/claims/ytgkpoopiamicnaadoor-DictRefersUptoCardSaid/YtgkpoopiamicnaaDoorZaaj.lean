/-
  Layer 40: slices.Index, Contains and ContainsFunc at texts. Conditions: slices that are read.
-/
import Derived.Test.YtgkpoopiamicnaaDoorZaai
namespace Go.Proofs.YtgkpoopiamicnaaDoor
open Go.RowKit Go.Lib

def idxT (x : ByteArray) (l : List ByteArray) : Option Nat := l.findIdx? fun y => decide (y = x)
def idxV (x : ByteArray) (l : List ByteArray) : Int := match idxT x l with
  | some i => (i : Int)
  | none => -1
theorem beqS {x y : ByteArray} : (x.toList == y.toList) = decide (x = y) := by
  rw [Lib.toList_data, Lib.toList_data]
  by_cases h : x = y
  · subst h; simp
  · rw [decide_eq_false h, beq_eq_false_iff_ne]
    intro e
    exact h (bl_inj e)
theorem findIdx_at {α : Type} {p : α → Bool} : ∀ {l : List α} {k : Nat} (hk : k < l.length), (∀ j (hj : j < l.length), j < k → p l[j] = false) → p l[k] = true → l.findIdx? p = some k
  | a :: l, 0, _, _, h => by rw [List.findIdx?_cons, show p a = true from h]; rfl
  | a :: l, k + 1, hk, h1, h2 => by
    have ha : p a = false := h1 0 (by simp) (by omega)
    rw [List.findIdx?_cons, ha, findIdx_at (k := k) (by simpa using hk) (fun j hj hjk => h1 (j + 1) (by simpa using hj) (by omega)) h2]
    rfl
theorem findIdx_none {α : Type} {p : α → Bool} {l : List α} (h : ∀ j (hj : j < l.length), p l[j] = false) : l.findIdx? p = none := by
  rw [List.findIdx?_eq_none_iff]
  intro x hx
  obtain ⟨k, hk, rfl⟩ := List.getElem_of_mem hx
  exact h k hk
set_option maxRecDepth 20000 in
theorem indexT_any (A : Option Addr) (n c K : Nat) (l : List ByteArray) (x : ByteArray) (w : World) (hr : ReadS w K A n l) (hn : n ≤ maxLen) :
    Calls Tryd.prog 66 #[.slice A n c, .string x] w fun e w' => e = .returned (.int .i64 (idxV x l)) ∧ w = w' := by
  unfold maxLen at hn
  have HL := Lib.hid hr.len; have HR := Lib.hid hr
  obtain ⟨r, hre⟩ : ∃ r, idxV x l = r := ⟨_, rfl⟩
  rw [hre]
  have HRE := Lib.hid hre
  clear hr hre
  go_enter Tryd.func66, Tryd.ntmps66
  go_wp2
  go_loop [5, 8] (fun _ i => ∃ k : Nat, k ≤ n ∧ i = .int .i64 k ∧ ∀ j (hj : j < l.length), j < k → decide (l[j] = x) = false) (fun _ i => n - (RowKit.intOf i).toNat)
  case atStart => exact ⟨0, by omega, rfl, fun j _ h => absurd h (by omega)⟩
  case round =>
    obtain ⟨k, hk, rfl, hall⟩ := hrel
    have HALL := Lib.hid hall
    clear hall
    by_cases hlt : k < n
    · have hkl : k < l.length := by rw [HL.out]; exact hlt
      have hkI : (k : Int) < (n : Int) := by omega
      obtain ⟨ad, rfl, _, hc⟩ := HR.out.at_ (k := k) hkl
      by_cases he : l[k] = x
      · have hi : idxV x l = k := by unfold idxV idxT; rw [findIdx_at hkl HALL.out (decide_eq_true he)]
        obtain rfl : r = k := by rw [← HRE.out]; exact hi
        have hb : (x.toList == x.toList) = true := by rw [beqS]; simp
        rw [he] at hc
        clear he hi hkl
        go_wp2
        go_ret
        exact ⟨rfl, rfl⟩
      · have hb : (x.toList == l[k].toList) = false := by rw [beqS]; exact decide_eq_false fun e => he e.symm
        have HE := Lib.hid he
        have HY : Hid (∀ j (hj : j < l.length), j < k + 1 → decide (l[j] = x) = false) := Lib.hid fun j hj hjk => by
          rcases Nat.lt_or_ge j k with h | h
          · exact HALL.out j hj h
          · obtain rfl : j = k := by omega
            exact decide_eq_false HE.out
        clear HE he
        generalize l[k] = y at hc hb
        clear hkl
        go_wp2
        go_round
        case rel => exact ⟨k + 1, by omega, by go_num, HY.out⟩
        case measure => simp [RowKit.intOf]; omega
    · obtain rfl : k = n := by omega
      have hi : idxV x l = -1 := by unfold idxV idxT; rw [findIdx_none fun j hj => HALL.out j hj (by rw [← HL.out]; exact hj)]
      obtain rfl : r = -1 := by rw [← HRE.out]; exact hi
      clear hi
      go_wp2
      go_ret
      exact ⟨rfl, rfl⟩
theorem idxV_mem {x : ByteArray} {l : List ByteArray} : decide (0 ≤ idxV x l) = memB l x := by
  unfold idxV idxT
  cases h : l.findIdx? fun y => decide (y = x) with
  | none =>
    rw [List.findIdx?_eq_none_iff] at h
    have : memB l x = false := by
      unfold memB
      rw [List.any_eq_false]
      intro y hy
      rw [h y hy]; decide
    rw [this]; decide
  | some i =>
    have hs : (l.findIdx? fun y => decide (y = x)).isSome = true := by rw [h]; rfl
    rw [List.findIdx?_isSome] at hs
    have : memB l x = true := hs
    rw [this, decide_eq_true_iff]
    show (0 : Int) ≤ (i : Int)
    omega
theorem containsT_any (A : Option Addr) (n c K : Nat) (l : List ByteArray) (x : ByteArray) (w : World) (hr : ReadS w K A n l) (hn : n ≤ maxLen) :
    Calls Tryd.prog 43 #[.slice A n c, .string x] w fun e w' => e = .returned (.bool (memB l x)) ∧ w = w' := by
  have hi := indexT_any A n c K l x w hr hn
  have hm := idxV_mem (x := x) (l := l)
  generalize memB l x = b at *
  generalize idxV x l = v at *
  subst hm
  clear hr hn
  go_enter Tryd.func43, Tryd.ntmps43
  go_wp2_with fail
  refine hi.mono ?_
  rintro e w' ⟨rfl, rfl⟩
  go_wp2
  go_ret
  exact ⟨rfl, rfl⟩
/-! ContainsFunc, with a closure that may make things. -/
def firstT (p : ByteArray → Bool) (l : List ByteArray) : Int := match l.findIdx? p with
  | some i => (i : Int)
  | none => -1
theorem firstT_any {p : ByteArray → Bool} {l : List ByteArray} : decide (0 ≤ firstT p l) = l.any p := by
  unfold firstT
  cases h : l.findIdx? p with
  | none =>
    rw [List.findIdx?_eq_none_iff] at h
    rw [List.any_eq_false.2 fun y hy => by rw [h y hy]; decide]
    decide
  | some i =>
    have hs : (l.findIdx? p).isSome = true := by rw [h]; rfl
    rw [List.findIdx?_isSome] at hs
    rw [hs, decide_eq_true_iff]
    show (0 : Int) ≤ (i : Int)
    omega
set_option maxRecDepth 20000 in
theorem indexFn_any (A : Option Addr) (n c : Nat) (l : List ByteArray) (p : ByteArray → Bool) (g : FuncId) (cb : Array Value) (w : World) (hr : ReadS w w.heap.size A n l) (hn : n ≤ maxLen)
    (eg : ∀ args W, (callFunc g args).run Tryd.prog W = .ok (.enter g args) W)
    (hp : ∀ W x, Below w.heap.size w W → x ∈ l → Calls Tryd.prog g (#[.string x] ++ cb) W fun e W' => e = .returned (.bool (p x)) ∧ Below W.heap.size W W') :
    Calls Tryd.prog 72 #[.slice A n c, .func (.func g) #[] cb] w fun e w' => e = .returned (.int .i64 (firstT p l)) ∧ Below w.heap.size w w' := by
  unfold maxLen at hn
  have HL := Lib.hid hr.len; have HR := Lib.hid hr; have HP := Lib.hid hp
  obtain ⟨r, hre⟩ : ∃ r, firstT p l = r := ⟨_, rfl⟩
  rw [hre]
  have HRE := Lib.hid hre
  clear hr hre hp
  go_enter Tryd.func72, Tryd.ntmps72
  go_wp2
  go_loopw [5, 8] (fun _ i wr => ∃ k : Nat, k ≤ n ∧ i = .int .i64 k ∧ (∀ j (hj : j < l.length), j < k → p l[j] = false) ∧ Below w.heap.size w wr) (fun _ i _ => n - (RowKit.intOf i).toNat)
  case atStart => exact ⟨0, by omega, rfl, fun j _ h => absurd h (by omega), Below.refl _ _⟩
  case round =>
    obtain ⟨k, hk, rfl, hall, hb⟩ := hrel
    have HALL := Lib.hid hall; have HB := Lib.hid hb
    clear hall hb
    by_cases hlt : k < n
    · have hkl : k < l.length := by rw [HL.out]; exact hlt
      have hkI : (k : Int) < (n : Int) := by omega
      obtain ⟨ad, rfl, had, hc⟩ := HR.out.at_ (k := k) hkl
      have hcw := (HB.out.cell (p := ad.add k) (by rw [block_of_add]; exact had)).trans hc
      have hcall := HP.out wr l[k] HB.out (List.getElem_mem hkl)
      cases hpk : p l[k] with
      | true =>
        have hi : firstT p l = k := by unfold firstT; rw [findIdx_at hkl HALL.out hpk]
        obtain rfl : r = k := by rw [← HRE.out]; exact hi
        rw [hpk] at hcall
        generalize l[k] = y at hcw hcall
        clear hi hkl hc hpk
        go_wp2_with fail
        refine hcall.mono ?_
        rintro e w2 ⟨rfl, hb2⟩
        go_wp2
        go_ret
        exact ⟨rfl, HB.out.trans (hb2.mono HB.out.size)⟩
      | false =>
        have HPK := Lib.hid hpk
        have HY : Hid (∀ j (hj : j < l.length), j < k + 1 → p l[j] = false) := Lib.hid fun j hj hjk => by
          rcases Nat.lt_or_ge j k with h | h
          · exact HALL.out j hj h
          · obtain rfl : j = k := by omega
            exact HPK.out
        rw [hpk] at hcall
        clear HPK hpk
        generalize l[k] = y at hcw hcall
        clear hkl hc
        go_wp2_with fail
        refine hcall.mono ?_
        rintro e w2 ⟨rfl, hb2⟩
        go_wp2
        go_roundw
        case rel => exact ⟨k + 1, by omega, by go_num, HY.out, HB.out.trans (hb2.mono HB.out.size)⟩
        case measure => simp [RowKit.intOf]; omega
    · obtain rfl : k = n := by omega
      have hi : firstT p l = -1 := by unfold firstT; rw [findIdx_none fun j hj => HALL.out j hj (by rw [← HL.out]; exact hj)]
      obtain rfl : r = -1 := by rw [← HRE.out]; exact hi
      clear hi
      go_wp2
      go_ret
      exact ⟨rfl, HB.out⟩
theorem hasFn_any (A : Option Addr) (n c : Nat) (l : List ByteArray) (p : ByteArray → Bool) (g : FuncId) (cb : Array Value) (w : World) (hr : ReadS w w.heap.size A n l) (hn : n ≤ maxLen)
    (eg : ∀ args W, (callFunc g args).run Tryd.prog W = .ok (.enter g args) W)
    (hp : ∀ W x, Below w.heap.size w W → x ∈ l → Calls Tryd.prog g (#[.string x] ++ cb) W fun e W' => e = .returned (.bool (p x)) ∧ Below W.heap.size W W') :
    Calls Tryd.prog 53 #[.slice A n c, .func (.func g) #[] cb] w fun e w' => e = .returned (.bool (l.any p)) ∧ Below w.heap.size w w' := by
  have hi := indexFn_any A n c l p g cb w hr hn eg hp
  have hm := firstT_any (p := p) (l := l)
  generalize l.any p = b at *
  generalize firstT p l = v at *
  subst hm
  clear hr hn hp eg
  go_enter Tryd.func53, Tryd.ntmps53
  go_wp2_with fail
  refine hi.mono ?_
  rintro e w' ⟨rfl, hb⟩
  go_wp2
  go_ret
  exact ⟨rfl, hb⟩
end Go.Proofs.YtgkpoopiamicnaaDoor
namespace Go.Proofs.YtgkpoopiamicnaaDoor
open Go.RowKit Go.Lib

def lowQ (r : Nat) : Bool := decide (r < 32)
theorem lowQ_from (s : ByteArray) : ∀ (f pos : Nat), s.size ≤ pos + f → (0 ≤ Lib.idxFuncFrom lowQ true s f pos ↔ ∃ j, ∃ hj : j < s.size, pos ≤ j ∧ s[j].toNat < 32) := by
  intro f
  induction f with
  | zero =>
    intro pos h
    simp only [Lib.idxFuncFrom]
    exact ⟨fun h => by omega, fun ⟨j, hj, h1, _⟩ => by omega⟩
  | succ f ih =>
    intro pos h
    simp only [Lib.idxFuncFrom]
    by_cases hp : pos < s.size
    · rw [if_pos hp]
      by_cases hlow : s[pos].toNat < 128
      · rw [decode_low s pos hp hlow]
        by_cases h32 : s[pos].toNat < 32
        · rw [if_pos (by simp [lowQ, h32])]
          exact ⟨fun _ => ⟨pos, hp, Nat.le_refl _, h32⟩, fun _ => by omega⟩
        · rw [if_neg (by simp [lowQ]; omega), ih (pos + 1) (by omega)]
          constructor
          · rintro ⟨j, hj, h1, h2⟩; exact ⟨j, hj, by omega, h2⟩
          · rintro ⟨j, hj, h1, h2⟩
            by_cases e : j = pos
            · subst e; exact absurd h2 h32
            · exact ⟨j, hj, by omega, h2⟩
      · obtain ⟨h1, h2, h3⟩ := decode_high s pos hp hlow
        rw [if_neg (by simp [lowQ]; omega), ih (pos + (Utf8.decode s pos).2) (by omega)]
        constructor
        · rintro ⟨j, hj, h1, h2⟩; exact ⟨j, hj, by omega, h2⟩
        · rintro ⟨j, hj, hj1, hj2⟩
          refine ⟨j, hj, ?_, hj2⟩
          rcases Nat.lt_or_ge j (pos + (Utf8.decode s pos).2) with hlt | hge
          · obtain ⟨_, h4⟩ := h3 j hj1 hlt; omega
          · exact hge
    · rw [if_neg hp]
      exact ⟨fun h => by omega, fun ⟨j, hj, h1, _⟩ => by omega⟩
theorem lowQ_iff (s : ByteArray) : decide (0 ≤ Lib.idxFunc lowQ true s) = !((bl s).all (fun c => decide (32 ≤ c.toNat))) := by
  unfold Lib.idxFunc
  rw [Bool.eq_iff_iff, decide_eq_true_eq, lowQ_from s s.size 0 (by omega), Bool.not_eq_true', List.all_eq_false]
  constructor
  · rintro ⟨j, hj, _, h⟩; exact ⟨s[j], List.getElem_mem (by rw [bl_len]; exact hj), by simp; omega⟩
  · rintro ⟨c, hc, h⟩
    obtain ⟨j, hj, rfl⟩ := List.getElem_of_mem hc
    rw [bl_len] at hj
    exact ⟨j, hj, Nat.zero_le _, Nat.lt_of_not_le (fun hle => h (decide_eq_true hle))⟩
theorem check11_any (x : Nat) (W : World) : Calls Tryd.prog 49 #[.int .i32 x] W fun e w' => e = .returned (.bool (lowQ x)) ∧ ∃ q, w' = W.drewN q := by
  go_enter Tryd.func49, Tryd.ntmps49
  go_wp2
  go_ret
  refine ⟨?_, 0, rfl⟩
  have : lowQ x = decide ((x : Int) < 32) := by unfold lowQ; rw [decide_eq_decide]; omega
  rw [this]; rfl
theorem hasLow_any (s : ByteArray) (w : World) :
    Calls Tryd.prog 38 #[.string s, .func (.func 49) #[] #[]] w fun e w' => e = .returned (.bool (!((bl s).all fun c => decide (32 ≤ c.toNat)))) ∧ Below w.heap.size w w' := by
  have h := Tryd.strings_ContainsFunc 49 #[] (enters_of Tryd.func49 (by kernel_rfl) rfl) lowQ s w (fun W x _ => check11_any x W)
  rw [lowQ_iff] at h
  exact h
theorem empty_of {s : ByteArray} (h0 : s.size = 0) : s = ⟨#[]⟩ := by
  obtain ⟨⟨l⟩⟩ := s
  simp [ByteArray.size] at h0
  subst h0; rfl
theorem ne_empty {s : ByteArray} (h0 : ¬ s.size = 0) : (s.toList == []) = false := by
  rw [Lib.toList_data]
  cases hl : s.data.toList with
  | nil => exact absurd (by have := bl_len s; unfold bl at this; rw [hl] at this; exact this.symm) h0
  | cons b l => rfl
set_option maxRecDepth 20000 in
theorem check1_any (s : ByteArray) (hs : s.size ≤ 140737488351232) (w : World) : Calls Tryd.prog 48 #[.string s] w fun e w' => e = .returned (.bool (!lineB s)) ∧ Below w.heap.size w w' := by
  have hl := hasLow_any s w
  obtain ⟨r, hr⟩ : ∃ r, (!lineB s) = r := ⟨_, rfl⟩
  rw [hr]
  unfold lineB at hr
  by_cases h0 : s.size = 0
  · rw [decide_eq_true h0] at hr
    obtain rfl := empty_of h0
    obtain rfl : true = r := hr
    clear hl h0
    go_enter Tryd.func48, Tryd.ntmps48
    go_wp2
    go_ret
    exact ⟨rfl, Below.refl _ _⟩
  · have hne := ne_empty h0
    rw [decide_eq_false h0] at hr
    by_cases h200 : 200 < s.size
    · rw [decide_eq_false (show ¬ s.size ≤ 200 by omega)] at hr
      obtain rfl : true = r := hr
      have h2I : (200 : Int) < s.size := by omega
      clear hl h0
      go_enter Tryd.func48, Tryd.ntmps48
      go_wp2
      go_ret
      exact ⟨rfl, Below.refl _ _⟩
    · rw [decide_eq_true (show s.size ≤ 200 by omega)] at hr
      obtain rfl : (!((bl s).all fun c => decide (32 ≤ c.toNat))) = r := hr
      have h2I : ¬ (200 : Int) < s.size := by omega
      generalize (!((bl s).all fun c => decide (32 ≤ c.toNat))) = q at *
      clear h0
      go_enter Tryd.func48, Tryd.ntmps48
      go_wp2_with fail
      refine hl.mono ?_
      rintro e w1 ⟨rfl, hb⟩
      go_wp2
      go_ret
      exact ⟨rfl, hb⟩
section
variable {w : World} {B a g mb : Nat} {hv : Value} {gs : Grps} {S : Nat → Prop} {L : List Art} {f : ByteArray → Option Value}
theorem check2_any (h : DictM w B a g mb hv gs S L f) (b : Nat) (hb : w.cell? ⟨b, 0, none⟩ = some (wptr g)) (s : ByteArray) (hs : s.size ≤ 140737488351232) :
    Calls Tryd.prog 50 #[.string s, wptr b] w fun e w' => e = .returned (.bool (!headB gs s)) ∧ Below w.heap.size w w' := by
  have hh := dhead_any h s hs
  generalize headB gs s = r at *
  clear h
  go_enter Tryd.func50, Tryd.ntmps50
  go_wp2_with fail
  refine hh.mono ?_
  rintro e w1 ⟨rfl, hb1⟩
  go_wp2
  go_ret
  exact ⟨rfl, hb1⟩
end
theorem ArtF.reads {w : World} {T : Nat → Prop} {x : Art} {cs : List Value} (h : ArtF w T x cs) (hT : ∀ b, T b → b < w.heap.size) : ∃ A1 c1 A2 c2 A3 c3, cs = [.string x.head, .slice A1 x.word.length c1, .slice A2 x.texts.length c2, .slice A3 x.see.length c3] ∧
    Reads w w.heap.size 2 A1 x.word.length (x.word.flatMap sndC) ∧ ReadS w w.heap.size A2 x.texts.length x.texts ∧ ReadS w w.heap.size A3 x.see.length x.see ∧ (x.word.length ≤ c1 ∧ c1 ≤ maxLen) ∧ (x.texts.length ≤ c2 ∧ c2 ≤ maxLen) ∧ (x.see.length ≤ c3 ∧ c3 ≤ maxLen) := by
  obtain ⟨v1, v2, v3, rfl, ⟨A1, c1, rfl, q1, r1⟩, ⟨A2, c2, rfl, q2, r2⟩, ⟨A3, c3, rfl, q3, r3⟩⟩ := h
  exact ⟨A1, c1, A2, c2, A3, c3, rfl, r1.reads hT, r2.reads hT, r3.reads hT, q1, q2, q3⟩
theorem not_all {l : List ByteArray} {p : ByteArray → Bool} : (l.any fun s => !p s) = !(l.all p) := by
  rw [Bool.eq_iff_iff]
  simp
theorem nodup_take {l : List ByteArray} {k : Nat} (hk : k < l.length) (h : (l.take k).Nodup) (hm : memB (l.take k) l[k] = false) : (l.take (k + 1)).Nodup := by
  rw [List.take_succ_eq_append_getElem hk, List.nodup_append]
  refine ⟨h, by simp, fun a ha b hb e => ?_⟩
  rw [List.mem_singleton] at hb
  subst e; subst hb
  rw [memB_iff.2 ha] at hm; cases hm
section
variable {w : World} {B a g mb : Nat} {hv : Value} {gs : Grps} {S : Nat → Prop} {L : List Art} {f : ByteArray → Option Value}
set_option linter.unusedSimpArgs false in
set_option maxRecDepth 20000 in
set_option maxHeartbeats 8000000 in
theorem check_any (h : DictM w B a g mb hv gs S L f) (x : Art) (cs : List Value) (T : Nat → Prop) (hx : ArtF w T x cs) (hT : ∀ b, T b → b < w.heap.size) (hok : ArtOk x) :
    Calls Tryd.prog 31 #[wptr g, aggM cs] w fun e w' => e = .returned (.int .i64 (artE gs L x)) ∧ Below w.heap.size w w' := by
  obtain ⟨A1, c1, A2, c2, A3, c3, rfl, hr1, hr2, hr3, q1, q2, q3⟩ := hx.reads hT
  have hword := fun W (hb : Below w.heap.size w W) => wordCheck_any A1 _ c1 w.heap.size x.word W (hr1.below hb) hb.size (Nat.le_trans q1.1 q1.2) hok.word
  have htexts := fun W (hb : Below w.heap.size w W) => hasFn_any A2 _ c2 x.texts (fun s => !lineB s) 48 #[] W ((hr2.below hb).more hb.size) (Nat.le_trans q2.1 q2.2) (enters_of Tryd.func48 (by kernel_rfl) rfl) (fun W2 s _ hs => check1_any s (hok.texts s hs) W2)
  have hsee := fun W b (hb : Below w.heap.size w W) (hc : W.cell? ⟨b, 0, none⟩ = some (wptr g)) (hlt : b < W.heap.size) => hasFn_any A3 _ c3 x.see (fun s => !headB gs s) 50 #[wptr b] W ((hr3.below hb).more hb.size) (Nat.le_trans q3.1 q3.2) (enters_of Tryd.func50 (by kernel_rfl) rfl)
    (fun W2 s hb2 hs => check2_any ((h.below hb).below hb2) b ((hb2.cell (p := ⟨b, 0, none⟩) hlt).trans hc) s (hok.see s hs))
  have hhead := fun W b (hb : Below w.heap.size w W) (hc : W.cell? ⟨b, 0, none⟩ = some (wptr g)) => check2_any (h.below hb) b hc x.head hok.head
  have hcon := fun W (hb : Below w.heap.size w W) k (hk : k ≤ x.see.length) s => containsT_any A3 k c3 w.heap.size (x.see.take k) s W (by
    have := (hr3.below hb).pre hk
    rw [Nat.mul_one, ← List.map_take] at this
    exact this) (Nat.le_trans hk (Nat.le_trans q3.1 q3.2))
  rw [not_all] at htexts
  simp only [not_all] at hsee
  have hlook := fun W (hb : Below w.heap.size w W) => (h.below hb).look x.head (Nat.le_trans hok.head (by unfold maxLen; omega))
  have hat := h.at_ x.head
  have hlen := fun W (hb : Below w.heap.size w W) ty => (h.below hb).map.len Tryd.underlying58 ty
  have hcell := fun W (hb : Below w.heap.size w W) => (h.below hb).cells
  obtain ⟨r, hre⟩ : ∃ r, artE gs L x = r := ⟨_, rfl⟩
  rw [hre]
  unfold artE at hre
  unfold maxLen at q1 q2 q3
  have HRE := Lib.hid hre; have HW := Lib.hid hword; have HT := Lib.hid htexts; have HS := Lib.hid hsee; have HH := Lib.hid hhead; have HC := Lib.hid hcon; have HLK := Lib.hid hlook; have HLN := Lib.hid hlen; have HCL := Lib.hid hcell; have HR3 := Lib.hid hr3; have HAT := Lib.hid hat
  have hglt := h.lt
  clear h hre hword htexts hsee hhead hcon hlook hlen hcell hat hx hT hok hr1 hr2 hr3
  obtain ⟨hd, l1, l2, l3⟩ := x
  dsimp only at *
  have hb0 : Below w.heap.size w ((w.alloc (.cells #[wptr g] 24)).alloc (.cells #[.string hd, .slice A1 l1.length c1, .slice A2 l2.length c2, .slice A3 l3.length c3] 35)) := ((Below.refl _ w).alloc (Nat.le_refl _) _).alloc (by simp) _
  have hx0 := (Blk.new w 24 #[wptr g]).alloc (.cells #[.string hd, .slice A1 l1.length c1, .slice A2 l2.length c2, .slice A3 l3.length c3] 35)
  have hx1 := Blk.new (w.alloc (.cells #[wptr g] 24)) 35 #[.string hd, .slice A1 l1.length c1, .slice A2 l2.length c2, .slice A3 l3.length c3]
  rw [World.size_alloc] at hx1
  go_enter Tryd.func31, Tryd.ntmps31
  go_upto_region 3 with fail
  obtain ⟨W0, hW0⟩ : ∃ W, (w.alloc (.cells #[wptr g] 24)).alloc (.cells #[.string hd, .slice A1 l1.length c1, .slice A2 l2.length c2, .slice A3 l3.length c3] 35) = W := ⟨_, rfl⟩
  have hsz0 : W0.heap.size = w.heap.size + 2 := by rw [← hW0]; simp
  rw [hW0] at hb0 hx0 hx1 ⊢
  obtain ⟨b, hbw⟩ : ∃ b, w.heap.size = b := ⟨_, rfl⟩
  have hcs : ∀ W, Below W0.heap.size W0 W → (W.cell? ⟨b, 0, none⟩ = some (wptr g) ∧ b < W.heap.size ∧ Below w.heap.size w W) ∧ W.cell? ⟨b + 1, 0, none⟩ = some (.string hd) ∧ W.cell? ⟨b + 1, 1, none⟩ = some (.slice A1 l1.length c1) ∧ W.cell? ⟨b + 1, 2, none⟩ = some (.slice A2 l2.length c2) ∧ W.cell? ⟨b + 1, 3, none⟩ = some (.slice A3 l3.length c3) := fun W hb => by
    have e1 := hx0.below hb (by omega)
    have e2 := hx1.below hb (by omega)
    rw [hbw] at e1 e2
    exact ⟨⟨e1.cell 0, e1.lt, hb0.trans (hb.mono hb0.size)⟩, e2.cell 0, e2.cell 1, e2.cell 2, e2.cell 3⟩
  rw [hbw]
  have HB0 := Lib.hid hb0; have HBW := Lib.hid hbw; have HCS := Lib.hid hcs
  clear hb0 hx0 hx1 hW0 hcs hbw
  obtain ⟨⟨z0, z1, z2⟩, y0, y1, y2, y3⟩ := HCS.out W0 (Below.refl _ _)
  go_wp2_with fail
  refine (HW.out W0 z2).mono ?_
  rintro e W1 ⟨rfl, hb1⟩
  have HB1 := Lib.hid hb1
  clear z0 z1 z2 y0 y1 y2 y3 hb1
  by_cases hw : wordE l1 = 0
  rotate_left
  · have hwb : (wordE l1 != 0) = true := by rw [bne_iff_ne]; exact hw
    have e := HRE.out
    rw [if_pos hw] at e
    rw [e] at hwb ⊢
    go_wp2
    go_ret
    exact ⟨rfl, (HCS.out _ HB1.out).1.2.2⟩
  rw [hw]
  have HRE1 := Lib.hid ((if_neg (by rw [hw]; decide)).symm.trans HRE.out)
  obtain ⟨⟨z0, z1, z2⟩, y0, y1, y2, y3⟩ := HCS.out W1 HB1.out
  clear hw
  go_wp2_with fail
  refine (HH.out W1 b z2 z0).mono ?_
  rintro e W2 ⟨rfl, hb2⟩
  have HB2 := Lib.hid (HB1.out.trans (hb2.mono HB1.out.size))
  clear z0 z1 z2 y0 y1 y2 y3 hb2
  by_cases hh : headB gs hd = false
  · rw [hh]
    obtain rfl : (10 : Int) = r := by have e := HRE1.out; rw [if_pos hh] at e; exact e
    clear hh
    go_wp2
    go_ret
    exact ⟨rfl, (HCS.out _ HB2.out).1.2.2⟩
  have HRE2 := Lib.hid ((if_neg hh).symm.trans HRE1.out)
  rw [show headB gs hd = true by simpa using hh]
  clear hh
  obtain ⟨⟨z0, z1, z2⟩, y0, y1, y2, y3⟩ := HCS.out W2 HB2.out
  by_cases h16 : 16 < l2.length ∨ 16 < l3.length
  · obtain rfl : (12 : Int) = r := by have e := HRE2.out; rw [if_pos h16] at e; exact e
    rcases h16 with h16 | h16
    · have h16I : (16 : Int) < (l2.length : Int) := by omega
      go_wp2
      go_ret
      exact ⟨rfl, z2⟩
    · have h16I : (16 : Int) < (l3.length : Int) := by omega
      by_cases h15 : 16 < l2.length
      · have h15I : (16 : Int) < (l2.length : Int) := by omega
        go_wp2
        go_ret
        exact ⟨rfl, z2⟩
      · have h15I : ¬ (16 : Int) < (l2.length : Int) := by omega
        go_wp2
        go_ret
        exact ⟨rfl, z2⟩
  have HRE3 := Lib.hid ((if_neg h16).symm.trans HRE2.out)
  have h2I : ¬ (16 : Int) < (l2.length : Int) := by omega
  have h3I : ¬ (16 : Int) < (l3.length : Int) := by omega
  clear h16
  go_wp2_with fail
  refine (HT.out W2 z2).mono ?_
  rintro e W3 ⟨rfl, hb3⟩
  have HB3 := Lib.hid (HB2.out.trans (hb3.mono HB2.out.size))
  clear z0 z1 z2 y0 y1 y2 y3 hb3
  by_cases ht : l2.all lineB = false
  · rw [ht]
    obtain rfl : (2 : Int) = r := by have e := HRE3.out; rw [if_pos ht] at e; exact e
    clear ht
    go_wp2
    go_ret
    exact ⟨rfl, (HCS.out _ HB3.out).1.2.2⟩
  have HRE4 := Lib.hid ((if_neg ht).symm.trans HRE3.out)
  rw [show l2.all lineB = true by simpa using ht]
  clear ht
  obtain ⟨⟨z0, z1, z2⟩, y0, y1, y2, y3⟩ := HCS.out W3 HB3.out
  go_wp2_with fail
  refine (HS.out W3 b z2 z0 z1).mono ?_
  rintro e W4 ⟨rfl, hb4⟩
  have HB4 := Lib.hid (HB3.out.trans (hb4.mono HB3.out.size))
  clear z0 z1 z2 y0 y1 y2 y3 hb4
  by_cases hs : l3.all (headB gs) = false
  · rw [hs]
    obtain rfl : (10 : Int) = r := by have e := HRE4.out; rw [if_pos hs] at e; exact e
    clear hs
    go_wp2
    go_ret
    exact ⟨rfl, (HCS.out _ HB4.out).1.2.2⟩
  have HRE5 := Lib.hid ((if_neg hs).symm.trans HRE4.out)
  rw [show l3.all (headB gs) = true by simpa using hs]
  clear hs HRE HRE1 HRE2 HRE3 HRE4
  obtain ⟨⟨z0, z1, z2⟩, y0, y1, y2, y3⟩ := HCS.out W4 HB4.out
  have HL3 := Lib.hid HR3.out.len
  go_wp2_with fail
  clear z0 z1 z2 y0 y1 y2 y3
  go_loopw [8, 9, 48] (fun _ _ i wr => ∃ k : Nat, k ≤ l3.length ∧ i = .int .i64 k ∧ (l3.take k).Nodup ∧ Below W0.heap.size W0 wr) (fun _ _ i _ => l3.length - (RowKit.intOf i).toNat)
  case atStart => exact ⟨0, by omega, rfl, by simp, HB4.out⟩
  case round =>
    obtain ⟨k, hk, rfl, hnd, hbr⟩ := hrel
    have HND := Lib.hid hnd; have HBR := Lib.hid hbr
    clear hnd hbr
    obtain ⟨⟨z0, z1, z2⟩, y0, y1, y2, y3⟩ := HCS.out wr HBR.out
    by_cases hlt : k < l3.length
    · have hkI : (k : Int) < (l3.length : Int) := by omega
      obtain ⟨ad, rfl, had, hc⟩ := (show ReadS wr w.heap.size A3 l3.length l3 from HR3.out.below z2).at_ (k := k) hlt
      have hcall := HC.out wr z2 k (by omega) l3[k]
      cases hm : memB (l3.take k) l3[k] with
      | true =>
        have htw : twiceB l3 = true := by
          rw [← Bool.not_eq_false, twiceB_iff]
          intro hn
          rw [memB_iff] at hm
          have h2 := hn
          rw [← List.take_append_drop k l3, List.nodup_append] at h2
          exact h2.2.2 _ hm _ (by rw [List.drop_eq_getElem_cons hlt]; exact List.mem_cons_self) rfl
        obtain rfl : (6 : Int) = r := by have e := HRE5.out; rw [if_pos htw] at e; exact e
        rw [hm] at hcall
        generalize l3[k] = y at hc hcall
        clear hm htw
        go_wp2_with fail
        refine hcall.mono ?_
        rintro e W5 ⟨rfl, rfl⟩
        go_wp2
        go_ret
        exact ⟨rfl, z2⟩
      | false =>
        have HNK := Lib.hid (nodup_take hlt HND.out hm)
        rw [hm] at hcall
        generalize l3[k] = y at hc hcall
        clear hm
        go_wp2_with fail
        refine hcall.mono ?_
        rintro e W5 ⟨rfl, rfl⟩
        go_wp2
        go_roundw
        case rel => exact ⟨k + 1, by omega, by go_num, HNK.out, by first | exact HBR.out | exact HBR.out.drew⟩
        case measure => simp [RowKit.intOf]; omega
    · have hkn : k = l3.length := by omega
      subst hkn
      have htw : ¬ twiceB l3 = true := by
        rw [Bool.not_eq_true, twiceB_iff]
        have := HND.out
        rw [List.take_length] at this
        exact this
      have HRE6 := Lib.hid ((if_neg htw).symm.trans HRE5.out)
      obtain ⟨ca, cb, cc⟩ := HCL.out wr z2
      have hlk := HLK.out wr z2
      obtain ⟨cs8, hv8, hcs8⟩ := HAT.out
      obtain ⟨p0, p1, p2, p3, p4, p5, rfl⟩ := hcs8.form
      generalize (artOf L hd).head = h8 at *
      generalize (artOf L hd).word.length = n8 at *
      generalize (artOf L hd).texts.length = m8 at *
      generalize (artOf L hd).see.length = k8 at *
      obtain ⟨tb, hth⟩ : ∃ tb, thereB L hd = tb := ⟨_, rfl⟩
      have hkp : ∀ W, Below wr.heap.size wr W → (W.cell? ⟨b, 0, none⟩ = some (wptr g) ∧ W.cell? ⟨g, 1, none⟩ = some (.map (some mb)) ∧ W.cell? ⟨b + 1, 0, none⟩ = some (.string hd) ∧ (Instr.lookup 58 (.map (some mb)) (.string hd) true).run Tryd.prog W = .ok (.tuple #[aggM [.string h8, .slice p0 n8 p1, .slice p2 m8 p3, .slice p4 k8 p5], .bool tb]) W) := fun W hb => by
        obtain ⟨⟨u0, u1, u2⟩, v0, _⟩ := HCS.out W (HBR.out.trans (hb.mono HBR.out.size))
        obtain ⟨_, d1, _⟩ := HCL.out W u2
        have e := HLK.out W u2
        rw [hv8, hth] at e
        exact ⟨u0, d1, v0, e⟩
      have HKP := Lib.hid hkp
      have hd0 := (Below.refl wr.heap.size wr).drew
      have HD1 := Lib.hid (hd0.alloc hd0.size (.cells #[.string ⟨#[]⟩, .slice none 0 0, .slice none 0 0, .slice none 0 0] 35))
      have HTH := Lib.hid hth; have HD2 := Lib.hid (((Below.refl wr.heap.size wr).alloc (Nat.le_refl _) (.cells #[.string h8, .slice p0 n8 p1, .slice p2 m8 p3, .slice p4 k8 p5] 35)).drew)
      obtain ⟨s0, s1, s2, s3⟩ := hkp wr (Below.refl _ _)
      clear hcs8 hv8 hlt htw HRE5 HND hkp hlk hth
      go_upto_region 20 with fail
      refine wp_region_held_drew (S := (fun W => W.cell? ⟨b, 0, none⟩ = some (wptr g) ∧ W.cell? ⟨g, 1, none⟩ = some (.map (some mb)) ∧ W.cell? ⟨b + 1, 0, none⟩ = some (.string hd) ∧ (Instr.lookup 58 (.map (some mb)) (.string hd) true).run Tryd.prog W = .ok (.tuple #[aggM [.string h8, .slice p0 n8 p1, .slice p2 m8 p3, .slice p4 k8 p5], .bool tb]) W)) (by kernel_rfl) ?_ (fun hHeld => ?_)
      · (try dsimp only)
        exact HKP.out _ (by first | exact hd0 | exact HD1.out | exact HD2.out)
      refine wpAnyH_take (i := 0) (v := ?_) rfl (by kernel_rfl) (by kernel_rfl) (by kernel_rfl) (fun _ _ _ h => h) (Or.inl ⟨by rfl, ?_⟩) (by assumption) ?_
      rotate_left
      · intro w hSw
        (try dsimp only at hSw)
        go_simp <;> with_reducible rfl
      try simp only [Act.put, List.getElem_toArray, List.getElem_cons_succ, List.getElem_cons_zero, List.setIfInBounds_toArray, List.set_cons_zero, List.set_cons_succ]
      refine wpAnyH_take (i := 1) (v := ?_) rfl (by kernel_rfl) (by kernel_rfl) (by kernel_rfl) (fun _ _ _ h => h) (Or.inl ⟨by rfl, ?_⟩) (by assumption) ?_
      rotate_left
      · intro w hSw
        (try dsimp only at hSw)
        go_simp <;> with_reducible rfl
      try simp only [Act.put, List.getElem_toArray, List.getElem_cons_succ, List.getElem_cons_zero, List.setIfInBounds_toArray, List.set_cons_zero, List.set_cons_succ]
      refine wpAnyH_take (i := 2) (v := ?_) rfl (by kernel_rfl) (by kernel_rfl) (by kernel_rfl) (fun _ _ _ h => h) (Or.inl ⟨by rfl, ?_⟩) (by assumption) ?_
      rotate_left
      · intro w hSw
        (try dsimp only at hSw)
        go_simp <;> with_reducible rfl
      try simp only [Act.put, List.getElem_toArray, List.getElem_cons_succ, List.getElem_cons_zero, List.setIfInBounds_toArray, List.set_cons_zero, List.set_cons_succ]
      refine wpAnyH_take (i := 3) (v := ?_) rfl (by kernel_rfl) (by kernel_rfl) (by kernel_rfl) (fun _ _ _ h => h) (Or.inl ⟨by rfl, ?_⟩) (by assumption) ?_
      rotate_left
      · intro w hSw
        (try dsimp only at hSw)
        go_simp <;> with_reducible rfl
      try simp only [Act.put, List.getElem_toArray, List.getElem_cons_succ, List.getElem_cons_zero, List.setIfInBounds_toArray, List.set_cons_zero, List.set_cons_succ]
      refine wpAnyH_take (i := 4) (v := ?_) rfl (by kernel_rfl) (by kernel_rfl) (by kernel_rfl) (fun _ _ _ h => h) (Or.inl ⟨by rfl, ?_⟩) (by assumption) ?_
      rotate_left
      · intro w hSw
        (try dsimp only at hSw)
        go_simp <;> with_reducible rfl
      try simp only [Act.put, List.getElem_toArray, List.getElem_cons_succ, List.getElem_cons_zero, List.setIfInBounds_toArray, List.set_cons_zero, List.set_cons_succ]
      refine wpAnyH_take (i := 5) (v := ?_) rfl (by kernel_rfl) (by kernel_rfl) (by kernel_rfl) (fun _ _ _ h => h) (Or.inl ⟨by rfl, ?_⟩) (by assumption) ?_
      rotate_left
      · intro w hSw
        (try dsimp only at hSw)
        go_simp <;> with_reducible rfl
      try simp only [Act.put, List.getElem_toArray, List.getElem_cons_succ, List.getElem_cons_zero, List.setIfInBounds_toArray, List.set_cons_zero, List.set_cons_succ]
      refine wpAnyH_take (i := 6) (v := ?_) rfl (by kernel_rfl) (by kernel_rfl) (by kernel_rfl) (fun _ _ _ h => h) (Or.inl ⟨by rfl, ?_⟩) (by assumption) ?_
      rotate_left
      · intro w hSw
        (try dsimp only at hSw)
        go_simp <;> with_reducible rfl
      try simp only [Act.put, List.getElem_toArray, List.getElem_cons_succ, List.getElem_cons_zero, List.setIfInBounds_toArray, List.set_cons_zero, List.set_cons_succ]
      refine wpAnyH_take (i := 7) (v := ?_) rfl (by kernel_rfl) (by kernel_rfl) (by kernel_rfl) (fun _ _ _ h => h) (Or.inl ⟨by rfl, ?_⟩) (by assumption) ?_
      rotate_left
      · intro w hSw
        (try dsimp only at hSw)
        go_simp <;> with_reducible rfl
      try simp only [Act.put, List.getElem_toArray, List.getElem_cons_succ, List.getElem_cons_zero, List.setIfInBounds_toArray, List.set_cons_zero, List.set_cons_succ]
      refine wpAnyH_take (i := 8) (v := ?_) rfl (by kernel_rfl) (by kernel_rfl) (by kernel_rfl) (fun _ _ _ h => h) (Or.inl ⟨by rfl, ?_⟩) (by assumption) ?_
      rotate_left
      · intro w hSw
        (try dsimp only at hSw)
        go_simp <;> with_reducible rfl
      try simp only [Act.put, List.getElem_toArray, List.getElem_cons_succ, List.getElem_cons_zero, List.setIfInBounds_toArray, List.set_cons_zero, List.set_cons_succ]
      refine wpAnyH_take (i := 9) (v := ?_) rfl (by kernel_rfl) (by kernel_rfl) (by kernel_rfl) (fun _ _ _ h => h) (Or.inl ⟨by rfl, ?_⟩) (by assumption) ?_
      rotate_left
      · intro w hSw
        (try dsimp only at hSw)
        go_simp <;> with_reducible rfl
      try simp only [Act.put, List.getElem_toArray, List.getElem_cons_succ, List.getElem_cons_zero, List.setIfInBounds_toArray, List.set_cons_zero, List.set_cons_succ]
      refine wpAnyH_ready (rs := [10]) (by kernel_rfl) (by simp) ?_
      refine AllReadyH.cons rfl (fun K hK => ?_) AllReadyH.nil
      go_simp
      refine hK.out _ _ ?_ (fun hHeld' => ?_)
      · (try dsimp only)
        exact HKP.out _ (by first | exact hd0 | exact HD1.out | exact HD2.out)
      clear hK K hHeld
      have hHeld := hHeld'
      clear hHeld'
      refine wpAnyH_ready (rs := [11]) (by kernel_rfl) (by simp) ?_
      refine AllReadyH.cons rfl (fun K hK => ?_) AllReadyH.nil
      go_simp
      refine hK.out _ _ ?_ (fun hHeld' => ?_)
      · (try dsimp only)
        exact HKP.out _ (by first | exact hd0 | exact HD1.out | exact HD2.out)
      clear hK K hHeld
      have hHeld := hHeld'
      clear hHeld'
      refine wpAnyH_ready (rs := [12]) (by kernel_rfl) (by simp) ?_
      refine AllReadyH.cons rfl (fun K hK => ?_) AllReadyH.nil
      go_simp
      refine hK.out _ _ ?_ (fun hHeld' => ?_)
      · (try dsimp only)
        exact HKP.out _ (by first | exact hd0 | exact HD1.out | exact HD2.out)
      clear hK K hHeld
      have hHeld := hHeld'
      clear hHeld'
      refine wpAnyH_done (by kernel_rfl) ?_ _
      have HBF := Lib.hid (z2.trans (HD2.out.mono z2.size))
      clear hHeld
      rw [HTH.out] at HRE6
      have HG1 := Lib.hid (HKP.out _ HD2.out)
      have HLE := Lib.hid (fun ty => HLN.out _ HBF.out ty)
      cases tb with
      | true =>
        obtain rfl : (6 : Int) = r := by have e := HRE6.out; rw [if_pos rfl] at e; exact e
        go_wp2
        go_ret
        exact ⟨rfl, HBF.out⟩
      | false =>
        have hre7 : (if 1024 ≤ L.length then (4 : Int) else 0) = r := by have e := HRE6.out; rw [if_neg (by decide)] at e; exact e
        obtain ⟨u0, u1, -⟩ := HG1.out
        have hle := HLE.out
        by_cases h1024 : 1024 ≤ L.length
        · obtain rfl : (4 : Int) = r := by rw [if_pos h1024] at hre7; exact hre7
          have hI : (1024 : Int) ≤ (L.length : Int) := by omega
          clear hre7
          go_wp2
          go_ret
          exact ⟨rfl, HBF.out⟩
        · obtain rfl : (0 : Int) = r := by rw [if_neg h1024] at hre7; exact hre7
          have hI : ¬ (1024 : Int) ≤ (L.length : Int) := by omega
          clear hre7
          go_wp2
          go_ret
          exact ⟨rfl, HBF.out⟩
end
end Go.Proofs.YtgkpoopiamicnaaDoor
