/-
  layer 43: the writer's lists of sounds. Conditions: a list of the reach; numbers of 32 bits.
-/
import Derived.Test.YtipfhamhiaeieaaDoorPkWt
import Derived.Test.YtipfhamhiaeieaaDoorFlat
namespace Go.Proofs.YtipfhamhiaeieaaDoor
open Go.RowKit Go.Lib

theorem add_next (a : Addr) (n j : Nat) : a.add (n + (j + 1)) = ⟨(a.add n).block, (a.add n).off + (j + 1), none⟩ := by
  unfold Addr.add
  by_cases h : n = 0
  · subst h; simp
  · rw [if_neg h, if_neg (by omega)]; simp [Nat.add_assoc]
theorem Reads.len_of {α : Type} [Inhabited α] {w : World} {B n k : Nat} {A : Option Addr} {l : List α} {f : α → List Value} (h : Reads w B k A n (l.flatMap f)) (hk : ∀ x, (f x).length = k) (k0 : 0 < k) : l.length = n := by
  have := h.1
  rw [flatMap_len f k hk] at this
  exact Nat.eq_of_mul_eq_mul_right k0 this
theorem Reads.row {α : Type} [Inhabited α] {w : World} {B n k i : Nat} {A : Option Addr} {l : List α} {f : α → List Value} (h : Reads w B k A n (l.flatMap f)) (hk : ∀ x, (f x).length = k) (k0 : 0 < k) (hi : i < l.length) :
    ∃ ad, A = some ad ∧ ad.block < B ∧ ∀ j u, (f l[i])[j]? = some u → w.cell? (ad.add (i * k + j)) = some u := by
  have hl := h.len_of hk k0
  obtain ⟨ad, e, hb, hc⟩ := h.2 (by omega)
  refine ⟨ad, e, hb, fun j u hu => hc _ u ?_⟩
  have hj : j < k := by rw [← hk l[i]]; exact (List.getElem?_eq_some_iff.1 hu).1
  have hlt : i * k + j < l.length * k := by
    have : i * k + k ≤ l.length * k := by rw [← Nat.succ_mul]; exact Nat.mul_le_mul_right _ hi
    omega
  rw [flatMap_get f k hk l _ hlt, show (i * k + j) / k = i by rw [Nat.mul_comm, Nat.mul_add_div k0, Nat.div_eq_of_lt hj]; omega, show (i * k + j) % k = j by rw [Nat.mul_comm, Nat.mul_add_mod, Nat.mod_eq_of_lt hj], getElem!_pos l i hi, getElem!_pos (f l[i]) j (by rw [hk]; exact hj), ← hu, List.getElem?_eq_getElem]
theorem snd_cells {w : World} {B n i : Nat} {A : Option Addr} {l : List Snd} (h : Reads w B 2 A n (l.flatMap sndC)) (hi : i < l.length) :
    ∃ ad, A = some ad ∧ ad.block < B ∧ w.cell? (ad.add (i * 2)) = some (.int .u32 l[i].1) ∧ w.cell? ⟨(ad.add (i * 2)).block, (ad.add (i * 2)).off + 1, none⟩ = some (.int .u32 l[i].2) := by
  obtain ⟨ad, e, hb, hc⟩ := h.row (fun _ => rfl) (by decide) hi
  exact ⟨ad, e, hb, hc 0 _ rfl, by rw [← add_next ad (i * 2) 0]; exact hc 1 _ rfl⟩
theorem flatB_len {α : Type} {put : α → List Nat} {m : Nat} (h : ∀ x, (put x).length ≤ m) (l : List α) : (l.flatMap put).length ≤ m * l.length := by
  induction l with
  | nil => simp
  | cons x l ih =>
    rw [List.flatMap_cons, List.length_append, List.length_cons, Nat.mul_add]
    have := h x
    omega
theorem take_flat {α : Type} (put : α → List Nat) (l : List α) (k : Nat) (hk : k < l.length) : (l.take (k + 1)).flatMap put = (l.take k).flatMap put ++ put l[k] := by
  rw [List.take_succ_eq_append_getElem hk, List.flatMap_append]; simp
set_option maxRecDepth 20000 in
set_option maxHeartbeats 1000000 in
theorem allSnd_any (w : World) (base g B : Nat) (A : Option Addr) (n c : Nat) (ws : List Snd) (xs : List Nat) (h : Wr w base g xs) (hr : Reads w B 2 A n (ws.flatMap sndC)) (hB : B ≤ base) (hn : n < 4294967296) (hok : ∀ s ∈ ws, ok32 s) (hx : xs.length + 5 + 10 * n ≤ CAP) :
    Calls Tryd.prog 35 #[wptr g, .slice A n c, .func (.func 36) #[wptr g] #[]] w fun e w' => e = .returned (.tuple #[]) ∧ Wr w' base g (xs ++ wordB ws) ∧ WStep g w w' := by
  have hwl := hr.len_of (fun _ => rfl) (by decide)
  have hc1 := count_any w base g n xs h hn (by omega)
  have hl := numB_len n
  have HH := Lib.hid h; have HR := Lib.hid hr; have HWL := Lib.hid hwl; have HOK := Lib.hid hok
  clear h hr hwl hok
  go_enter Tryd.func35, Tryd.ntmps35
  go_wp2_with fail
  refine hc1.mono ?_
  rintro e w1 ⟨rfl, h1, h2⟩
  have HW := Lib.hid h1; have HST := Lib.hid h2
  clear h1 h2 hc1
  go_wp2
  go_loopw [14] (fun i wr => ∃ k : Nat, k ≤ n ∧ i = .int .i64 k ∧ Wr wr base g (xs ++ numB n ++ (ws.take k).flatMap sndB) ∧ WStep g w wr) (fun i _ => n - (intOf i).toNat)
  case atStart => exact ⟨0, by omega, rfl, by simpa using HW.out, HST.out⟩
  case round =>
    obtain ⟨k, hk, rfl, hwr, hst⟩ := hrel
    have HWR := Lib.hid hwr; have HST2 := Lib.hid hst
    clear hwr hst
    by_cases hlt : k < n
    · have hkl : k < ws.length := by rw [HWL.out]; exact hlt
      have hkI : (k : Int) < (n : Int) := by omega
      obtain ⟨ad, rfl, had, hc0, hc1⟩ := snd_cells (HST2.out.reads HH.out HR.out hB) hkl
      go_wp2_with fail
      have hlen : (xs ++ numB n ++ (ws.take k).flatMap sndB).length + 10 ≤ CAP := by
        have := flatB_len sndB_len (ws.take k)
        rw [List.length_append, List.length_append]
        rw [List.length_take, HWL.out] at this
        omega
      refine (sound_any _ base g ws[k] _ (HWR.out.alloc _) (HOK.out _ (List.getElem_mem hkl)) hlen).mono ?_
      rintro e w2 ⟨rfl, h3, h4⟩
      have H3 := Lib.hid h3; have H4 := Lib.hid h4
      clear h3 h4
      go_wp2
      go_roundw
      case rel => exact ⟨k + 1, by omega, by go_num, by rw [take_flat sndB ws k hkl, ← List.append_assoc]; exact H3.out, (HST2.out.alloc HWR.out.lt _).trans H4.out⟩
      case measure => simp [intOf]; omega
    · obtain rfl : k = n := by omega
      go_wp2
      go_end0
      refine ⟨rfl, ?_, HST2.out⟩
      have := HWR.out
      rw [List.take_of_length_le (by rw [HWL.out]; exact Nat.le_refl _), List.append_assoc] at this
      show Wr wr base g (xs ++ (numB ws.length ++ ws.flatMap sndB))
      rw [HWL.out]; exact this
end Go.Proofs.YtipfhamhiaeieaaDoor
