/-
  layer 39: alphabets that are nil, or were not made by New. Conditions: none.
-/
import Derived.Test.YtcdpadggjkobjaaDoorNews
namespace Go.Proofs.YtcdpadggjkobjaaDoor
open Go.RowKit Go.Lib

def Unmade (w : World) (p : Option Addr) : Prop := p = none ∨ ∃ g, p = some ⟨g, 0, none⟩ ∧ g < w.heap.size ∧ w.cell? ⟨g, 1, none⟩ = some (.map none)
theorem Unmade.below {w w' : World} {p : Option Addr} (h : Unmade w p) (hb : Below w.heap.size w w') : Unmade w' p := by
  rcases h with h | ⟨g, h1, h2, h3⟩
  · exact .inl h
  · exact .inr ⟨g, h1, by have := hb.size; omega, (hb.cell (p := ⟨g, 1, none⟩) h2).trans h3⟩
theorem made0 (p : Option Addr) (w : World) (h : Unmade w p) : Calls Tryd.prog 57 #[.pointer p] w fun e w' => e = .returned (.bool false) ∧ w = w' := by
  rcases h with rfl | ⟨g, rfl, _, hc⟩
  · exact madeN_any w
  · have hne : ∀ (W : World), (binOp .neq 63 (.map none) (.map none)).run Tryd.prog W = .ok (.bool false) W := fun W => by kernel_rfl
    go_enter Tryd.func57, Tryd.ntmps57
    go_wp2
    go_ret
    exact ⟨rfl, rfl⟩
theorem wrong0 (p : Option Addr) (s : ByteArray) (w : World) (h : Unmade w p) : Calls Tryd.prog 46 #[.pointer p, .string s] w fun e w' => e = .returned (.int .i64 1) ∧ w = w' := by
  have hm := made0 p w h
  go_enter Tryd.func46, Tryd.ntmps46
  go_wp2_with (go_at_call 57; refine hm.mono ?_; rintro e w' ⟨rfl, rfl⟩)
  go_ret
  exact ⟨rfl, rfl⟩
def Post0 (w : World) (v : Value) (e : Ending) (w' : World) : Prop := e = .returned v ∧ Below w.heap.size w w'
theorem split0 (p : Option Addr) (s : ByteArray) (w : World) (h : Unmade w p) : Calls Tryd.prog 16 #[.pointer p, .string s] w (Post0 w (.tuple #[.slice none 0 0, .int .i64 1])) := by
  have hw := fun W (hb : Below w.heap.size w W) => wrong0 p s W (h.below hb)
  have HW := Lib.hid hw; clear hw
  go_enter Tryd.func16, Tryd.ntmps16
  go_wp2_with (go_at_call 46; refine (HW.out _ (by exact ((Below.refl _ w).alloc (Nat.le_refl _) _).alloc (by simp) _)).mono ?_; rintro e w' ⟨rfl, rfl⟩)
  exact bodyPost_ret (v := .tuple #[.slice none 0 0, .int .i64 1]) (by simp [results, Tryd.results16, go_sem]) rfl ⟨rfl, ((Below.refl _ w).alloc (Nat.le_refl _) _).alloc (by simp) _⟩
theorem key0 (p : Option Addr) (s : ByteArray) (w : World) (h : Unmade w p) : Calls Tryd.prog 18 #[.pointer p, .string s] w (Post0 w (.tuple #[.slice none 0 0, .int .i64 1])) := by
  have hw := fun W (hb : Below w.heap.size w W) => wrong0 p s W (h.below hb)
  have HW := Lib.hid hw; clear hw
  go_enter Tryd.func18, Tryd.ntmps18
  go_wp2_with (go_at_call 46; refine (HW.out _ (by exact ((Below.refl _ w).alloc (Nat.le_refl _) _).alloc (by simp) _)).mono ?_; rintro e w' ⟨rfl, rfl⟩)
  exact bodyPost_ret (v := .tuple #[.slice none 0 0, .int .i64 1]) (by simp [results, Tryd.results18, go_sem]) rfl ⟨rfl, ((Below.refl _ w).alloc (Nat.le_refl _) _).alloc (by simp) _⟩
theorem letters0 (p : Option Addr) (w : World) (h : Unmade w p) : Calls Tryd.prog 30 #[.pointer p] w (Post0 w (.slice none 0 0)) := by
  have hm := made0 p w h
  go_enter Tryd.func30, Tryd.ntmps30
  go_wp2_with (go_at_call 57; refine hm.mono ?_; rintro e w' ⟨rfl, rfl⟩)
  go_ret
  exact ⟨rfl, Below.refl _ _⟩
theorem sorted0 (p : Option Addr) (l : Value) (w : World) (h : Unmade w p) : Calls Tryd.prog 65 #[.pointer p, l] w (Post0 w (.tuple #[.slice none 0 0, .int .i64 1])) := by
  have hm := made0 p w h
  go_enter Tryd.func65, Tryd.ntmps65
  go_wp2_with (go_at_call 57; refine hm.mono ?_; rintro e w' ⟨rfl, rfl⟩)
  go_ret2
  exact ⟨rfl, Below.refl _ _⟩
theorem sort0 (p : Option Addr) (l : Value) (w : World) (h : Unmade w p) : Calls Tryd.prog 37 #[.pointer p, l] w (Post0 w (.tuple #[.slice none 0 0, .int .i64 1])) := by
  have hm := sorted0 p l w h
  go_enter Tryd.func37, Tryd.ntmps37
  go_wp2_with fail
  refine hm.mono ?_
  rintro e w1 ⟨rfl, hb⟩
  go_wp2
  go_ret2
  exact ⟨rfl, hb⟩
theorem heads0 (p : Option Addr) (l : Value) (w : World) (h : Unmade w p) : Calls Tryd.prog 39 #[.pointer p, l] w (Post0 w (.tuple #[.slice none 0 0, .slice none 0 0, .int .i64 1])) := by
  have hm := sorted0 p l w h
  go_enter Tryd.func39, Tryd.ntmps39
  go_wp2_with fail
  refine hm.mono ?_
  rintro e w1 ⟨rfl, hb⟩
  go_wp2
  go_ret3
  exact ⟨rfl, hb⟩
theorem between0 (p : Option Addr) (l : Value) (s t : ByteArray) (w : World) (h : Unmade w p) : Calls Tryd.prog 41 #[.pointer p, l, .string s, .string t] w (Post0 w (.tuple #[.slice none 0 0, .int .i64 1])) := by
  have hm := sorted0 p l w h
  go_enter Tryd.func41, Tryd.ntmps41
  go_wp2_with fail
  refine hm.mono ?_
  rintro e w1 ⟨rfl, hb⟩
  go_wp2
  go_ret2
  exact ⟨rfl, hb⟩
set_option maxRecDepth 20000 in
set_option maxHeartbeats 2000000 in
theorem two0 (p : Option Addr) (s t : ByteArray) (w : World) (h : Unmade w p) : Calls Tryd.prog 49 #[.pointer p, .string s, .string t] w (Post0 w (.tuple #[.agg #[.slice none 0 0, .string ⟨#[]⟩], .agg #[.slice none 0 0, .string ⟨#[]⟩], .int .i64 1])) := by
  have k1 := fun W (hb : Below w.heap.size w W) => key0 p s W (h.below hb)
  have K1 := Lib.hid k1; clear k1
  obtain ⟨W0, hW0⟩ : ∃ W0, (w.alloc (.cells #[.slice none 0 0, .string ⟨#[]⟩] 82)).alloc (.cells #[.slice none 0 0, .string ⟨#[]⟩] 82) = W0 := ⟨_, rfl⟩
  have hbW : Below w.heap.size w W0 := by rw [← hW0]; exact ((Below.refl _ w).alloc (Nat.le_refl _) _).alloc (by simp) _
  have hsz : W0.heap.size = w.heap.size + 2 := by rw [← hW0]; simp
  have b0 : Blk W0 w.heap.size 82 #[.slice none 0 0, .string ⟨#[]⟩] := by rw [← hW0]; exact (Blk.new w _ _).alloc _
  have b1 : Blk W0 (w.heap.size + 1) 82 #[.slice none 0 0, .string ⟨#[]⟩] := by
    rw [← hW0]
    have := Blk.new (w.alloc (.cells #[.slice none 0 0, .string ⟨#[]⟩] 82)) 82 #[.slice none 0 0, .string ⟨#[]⟩]
    rwa [World.size_alloc] at this
  have HW0 := Lib.hid hW0; have HSZ := Lib.hid hsz; clear hW0 hsz
  go_enter Tryd.func49, Tryd.ntmps49
  go_wp2_with fail
  rw [HW0.out]
  refine (K1.out _ hbW).mono ?_
  rintro e w1 ⟨rfl, hb⟩
  have c00 := (b0.below hb (by rw [HSZ.out]; omega)).cell 0
  have c01 := (b0.below hb (by rw [HSZ.out]; omega)).cell 1
  have c10 := (b1.below hb (by rw [HSZ.out]; omega)).cell 0
  have c11 := (b1.below hb (by rw [HSZ.out]; omega)).cell 1
  have f00 := (b0.below hb (by rw [HSZ.out]; omega)).frozen 0
  have f01 := (b0.below hb (by rw [HSZ.out]; omega)).frozen 1
  have f10 := (b1.below hb (by rw [HSZ.out]; omega)).frozen 0
  have f11 := (b1.below hb (by rw [HSZ.out]; omega)).frozen 1
  simp only [List.getElem?_toArray, List.getElem?_cons_zero, List.getElem?_cons_succ] at c00 c01 c10 c11
  go_wp2
  refine bodyPost_ret (v := .tuple #[.agg #[.slice none 0 0, .string ⟨#[]⟩], .agg #[.slice none 0 0, .string ⟨#[]⟩], .int .i64 1]) (by simp [results, Tryd.results49, go_sem, c00, c01, c10, c11]) rfl ⟨rfl, ?_⟩
  have hB := hbW.trans (hb.mono hbW.size)
  exact (((hB.setCell (by simp) _).setCell (by simp) _).setCell (by simp) _).setCell (by simp) _
theorem order0 (p : Option Addr) (s t : ByteArray) (w : World) (h : Unmade w p) : Calls Tryd.prog 22 #[.pointer p, .string s, .string t] w (Post0 w (.tuple #[.int .i64 0, .int .i64 1])) := by
  have hm := two0 p s t w h
  go_enter Tryd.func22, Tryd.ntmps22
  go_wp2_with fail
  refine hm.mono ?_
  rintro e w1 ⟨rfl, hb⟩
  go_wp2
  go_ret2
  exact ⟨rfl, (hb.alloc hb.size _).alloc (by have := hb.size; simp; omega) _⟩
theorem same0 (p : Option Addr) (s t : ByteArray) (w : World) (h : Unmade w p) : Calls Tryd.prog 24 #[.pointer p, .string s, .string t] w (Post0 w (.bool false)) := by
  have hm := two0 p s t w h
  go_enter Tryd.func24, Tryd.ntmps24
  go_wp2_with fail
  refine hm.mono ?_
  rintro e w1 ⟨rfl, hb⟩
  go_wp2
  go_ret
  exact ⟨rfl, (hb.alloc hb.size _).alloc (by have := hb.size; simp; omega) _⟩
end Go.Proofs.YtcdpadggjkobjaaDoor
