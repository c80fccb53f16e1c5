/-
  Layer 40: slices.SortFunc's order2, median, choosePivot on a row of texts, compared by a method. Conditions: indices in the row.
-/
import Derived.Test.YtgkpoopiamicnaaDoorDtV4
namespace Go.Proofs.YtgkpoopiamicnaaDoor
open Go.RowKit Go.Lib
/-- The row, and a counter. -/
structure CntR {α : Type} [Inhabited α] (enc : α → ByteArray) (B : Nat) (w0 : World) (blk : Nat) (d : Array α) (c s : Nat) (W : World) : Prop where
  st : StR enc B w0 blk d W
  cell : W.cell? ⟨c, 0, none⟩ = some (.int .i64 s)
  frz : W.frozen? ⟨c, 0, none⟩ = false
  ne : c ≠ blk
  ge : B ≤ c
  lt : c < W.heap.size
section
variable {α : Type} [Inhabited α] {enc : α → ByteArray} {B : Nat} {w0 W W' : World} {blk c s : Nat} {d : Array α}
theorem CntR.of_below (h : CntR enc B w0 blk d c s W) (hb : Below W.heap.size W W') : CntR enc B w0 blk d c s W' :=
  ⟨h.st.of_below hb, by rw [hb.cell h.lt]; exact h.cell, by rw [hb.frozen h.lt]; exact h.frz, h.ne, h.ge, Nat.lt_of_lt_of_le h.lt hb.size⟩
theorem CntR.drew (h : CntR enc B w0 blk d c s W) : CntR enc B w0 blk d c s W.drew := h.of_below (Below.refl _ _).drew
theorem CntR.bump (h : CntR enc B w0 blk d c s W) {t : Nat} {v : Int} (hv : v = t) : CntR enc B w0 blk d c t (W.setCell ⟨c, 0, none⟩ (.int .i64 v)) := by
  subst hv
  refine CntR.mk (StR.mk (h.st.below.setCell (p := ⟨c, 0, none⟩) h.ge _) h.st.ge (by simpa using h.st.lt) (fun i hi => ?_) (fun i hi => ?_) (h.st.obj.setCell _ _)) (World.cell?_setCell_same _ _ _ h.cell) (by rw [World.frozen?_setCell]; exact h.frz) h.ne h.ge (by simpa using h.lt)
  · rw [World.cell?_setCell_other _ _ _ _ (by intro e'; simp only [Addr.mk.injEq] at e'; exact h.ne e'.1)]; exact h.st.cell i hi
  · rw [World.frozen?_setCell]; exact h.st.frz i hi
theorem CmpM.inC {cf : α → α → Int} {g : Nat} (h : CmpM enc cf B w0 g) (p : InS (CntR enc B w0 blk d c s)) (x y : α) : Calls Tryd.prog 33 #[wptr g, .string (enc x), .string (enc y)] p.W fun e W' => e = .returned (.int .i64 (cf x y)) ∧ ∃ q : InS (CntR enc B w0 blk d c s), W' = q.W :=
  Calls.in_ ((h _ p.ok.st.below x y).mono fun _ _ ⟨e, hb⟩ => ⟨e, p.ok.of_below hb⟩)
def PairPost (enc : α → ByteArray) (B : Nat) (w0 : World) (blk : Nat) (d : Array α) (c : Nat) (r : Nat × Nat × Nat) (e : Ending) (W' : World) : Prop := e = .returned (.tuple #[.int .i64 r.1, .int .i64 r.2.1]) ∧ CntR enc B w0 blk d c r.2.2 W'
def OnePost (enc : α → ByteArray) (B : Nat) (w0 : World) (blk : Nat) (d : Array α) (c : Nat) (r : Nat × Nat) (e : Ending) (W' : World) : Prop := e = .returned (.int .i64 r.1) ∧ CntR enc B w0 blk d c r.2 W'
set_option maxRecDepth 20000 in
set_option maxHeartbeats 4000000 in
theorem vorder2 (cf : α → α → Int) (g : Nat) (hC : CmpM enc cf B w0 g) (cap a b : Nat) (ha : a < d.size) (hb : b < d.size) (hs : s ≤ 1000) (_ : d.size ≤ 1000000) (h : CntR enc B w0 blk d c s W) :
    Calls Tryd.prog 107 #[.slice (some ⟨blk, 0, none⟩) d.size cap, .int .i64 a, .int .i64 b, .pointer (some ⟨c, 0, none⟩), ordV g] W (PairPost enc B w0 blk d c (Sort.order2 (ltC cf) d a b s)) := by
  obtain ⟨x, hx⟩ : ∃ x, enc d[b]! = x := ⟨_, rfl⟩
  obtain ⟨y, hy⟩ : ∃ x, enc d[a]! = x := ⟨_, rfl⟩
  obtain ⟨cv, hcv⟩ : ∃ x, cf d[b]! d[a]! = x := ⟨_, rfl⟩
  obtain ⟨N, hN⟩ : ∃ N, d.size = N := ⟨_, rfl⟩
  have c1 : ∀ zp : InS (CntR enc B w0 blk d c s), zp.W.cell? ⟨blk, b, none⟩ = some (.string x) := fun zp => (zp.ok.st.cells rfl hb hx).1
  have c2 : ∀ zp : InS (CntR enc B w0 blk d c s), zp.W.cell? ⟨blk, a, none⟩ = some (.string y) := fun zp => (zp.ok.st.cells rfl ha hy).1
  have hcall : ∀ zp : InS (CntR enc B w0 blk d c s), Calls Tryd.prog 33 #[wptr g, .string x, .string y] zp.W fun e W' => e = .returned (.int .i64 cv) ∧ ∃ zq : InS (CntR enc B w0 blk d c s), W' = zq.W := fun zp => by
    have := hC.inC zp d[b]! d[a]!
    rw [hx, hy, hcv] at this
    exact this
  have hdr := h.drew
  rw [hN] at ha hb ⊢
  have haz : (a : Int) < (N : Int) := by omega
  have hbz : (b : Int) < (N : Int) := by omega
  have hw : IntKind.i64.wrap ((s : Int) + 1) = (s : Int) + 1 := by rw [IntKind.wrap_i64]; omega
  have Hcv := Lib.hid hcv; have H := Lib.hid h
  clear hx hy hcv hN hC h
  by_cases hlv : cv < 0
  · have HR := Lib.hid (show Sort.order2 (ltC cf) d a b s = (b, a, s + 1) by unfold Sort.order2; rw [ltC_t Hcv.out hlv]; rfl)
    go_enter Tryd.func107, Tryd.ntmps107
    go_wp2_with fail
    go_in (CntR enc B w0 blk d c s) (exact hcall _)
    have hok := Lib.hid pq.ok
    clear c1 c2 hcall hdr
    have d1 := hok.out.cell
    have d2 := hok.out.frz
    go_wp2
    go_ret2
    exact show PairPost enc B w0 blk d c _ _ _ by rw [HR.out]; exact ⟨rfl, CntR.bump (t := s + 1) (v := (s : Int) + 1) hok.out rfl⟩
  · have HR := Lib.hid (show Sort.order2 (ltC cf) d a b s = (a, b, s) by unfold Sort.order2; rw [ltC_f Hcv.out hlv]; rfl)
    go_enter Tryd.func107, Tryd.ntmps107
    go_wp2_with fail
    go_in (CntR enc B w0 blk d c s) (exact hcall _)
    have hok := Lib.hid pq.ok
    clear c1 c2 hcall hdr
    go_wp2
    go_ret2
    exact show PairPost enc B w0 blk d c _ _ _ by rw [HR.out]; exact ⟨rfl, hok.out⟩
theorem order2_in {lt : α → α → Bool} {N a b s : Nat} (ha : a < N) (hb : b < N) : (Sort.order2 lt d a b s).1 < N ∧ (Sort.order2 lt d a b s).2.1 < N ∧ (Sort.order2 lt d a b s).2.2 ≤ s + 1 := by
  unfold Sort.order2
  split
  · exact ⟨hb, ha, Nat.le_refl _⟩
  · exact ⟨ha, hb, Nat.le_succ _⟩
set_option maxRecDepth 20000 in
set_option maxHeartbeats 4000000 in
theorem vmedian (cf : α → α → Int) (g : Nat) (hC : CmpM enc cf B w0 g) (cap i j k : Nat) (hi : i < d.size) (hj : j < d.size) (hk : k < d.size) (hs : s ≤ 900) (hsz : d.size ≤ 1000000) (h : CntR enc B w0 blk d c s W) :
    Calls Tryd.prog 103 #[.slice (some ⟨blk, 0, none⟩) d.size cap, .int .i64 i, .int .i64 j, .int .i64 k, .pointer (some ⟨c, 0, none⟩), ordV g] W (OnePost enc B w0 blk d c (Sort.median (ltC cf) d i j k s)) := by
  obtain ⟨r1, h1⟩ : ∃ r, Sort.order2 (ltC cf) d i j s = r := ⟨_, rfl⟩
  obtain ⟨r2, h2⟩ : ∃ r, Sort.order2 (ltC cf) d r1.2.1 k r1.2.2 = r := ⟨_, rfl⟩
  obtain ⟨r3, h3⟩ : ∃ r, Sort.order2 (ltC cf) d r1.1 r2.1 r2.2.2 = r := ⟨_, rfl⟩
  have b1 := order2_in (lt := ltC cf) (d := d) (s := s) hi hj
  rw [h1] at b1
  have b2 := order2_in (lt := ltC cf) (d := d) (s := r1.2.2) b1.2.1 hk
  rw [h2] at b2
  have b3 := order2_in (lt := ltC cf) (d := d) (s := r2.2.2) b1.1 b2.1
  rw [h3] at b3
  have HM := Lib.hid (show Sort.median (ltC cf) d i j k s = (r3.2.1, r3.2.2) by unfold Sort.median; simp only [h1, h2, h3])
  have q1 := vorder2 cf g hC cap i j hi hj (by omega) hsz h
  have q2 := fun W (h : CntR enc B w0 blk d c r1.2.2 W) => vorder2 cf g hC cap r1.2.1 k b1.2.1 hk (by omega) hsz h
  have q3 := fun W (h : CntR enc B w0 blk d c r2.2.2 W) => vorder2 cf g hC cap r1.1 r2.1 b1.1 b2.1 (by omega) hsz h
  rw [h1] at q1
  rw [h2] at q2
  rw [h3] at q3
  obtain ⟨N, hN⟩ : ∃ N, d.size = N := ⟨_, rfl⟩
  rw [hN] at q1 q2 q3 ⊢
  have Q2 := Lib.hid q2; have Q3 := Lib.hid q3
  obtain ⟨x1, y1, s1⟩ := r1
  obtain ⟨x2, y2, s2⟩ := r2
  obtain ⟨x3, y3, s3⟩ := r3
  clear h1 h2 h3 q2 q3 hN h hC b1 b2 b3 hi hj hk
  go_enter Tryd.func103, Tryd.ntmps103
  go_wp2_with fail
  refine q1.mono ?_
  rintro e w1 ⟨rfl, k1⟩
  have K := Q2.out w1 k1
  clear q1 k1
  go_wp2_with fail
  refine K.mono ?_
  rintro e w2 ⟨rfl, k2⟩
  have K3 := Q3.out w2 k2
  clear K k2
  go_wp2_with fail
  refine K3.mono ?_
  rintro e w3 ⟨rfl, k3⟩
  have HK := Lib.hid k3
  clear K3 k3
  go_wp2
  go_ret
  exact show OnePost enc B w0 blk d c _ _ _ by rw [HM.out]; exact ⟨rfl, HK.out⟩
set_option maxRecDepth 20000 in
set_option maxHeartbeats 4000000 in
theorem vadjacent (cf : α → α → Int) (g : Nat) (hC : CmpM enc cf B w0 g) (cap i : Nat) (h1 : 1 ≤ i) (hi : i + 1 < d.size) (hs : s ≤ 900) (hsz : d.size ≤ 1000000) (h : CntR enc B w0 blk d c s W) :
    Calls Tryd.prog 102 #[.slice (some ⟨blk, 0, none⟩) d.size cap, .int .i64 i, .pointer (some ⟨c, 0, none⟩), ordV g] W (OnePost enc B w0 blk d c (Sort.medianAdjacent (ltC cf) d i s)) := by
  have q1 := vmedian cf g hC cap (i - 1) i (i + 1) (by omega) (by omega) hi hs hsz h
  obtain ⟨p, hp⟩ : ∃ p, i - 1 = p := ⟨_, rfl⟩
  obtain ⟨n, hn⟩ : ∃ n, i + 1 = n := ⟨_, rfl⟩
  have HM := Lib.hid (show Sort.medianAdjacent (ltC cf) d i s = Sort.median (ltC cf) d p i n s by unfold Sort.medianAdjacent; rw [hp, hn])
  rw [hp, hn] at q1
  have hpz : (i : Int) - 1 = (p : Int) := by omega
  have hnz : (i : Int) + 1 = (n : Int) := by omega
  have wp' := wrapN (n := p) (by omega); have wn := wrapN (n := n) (by omega)
  obtain ⟨N, hN⟩ : ∃ N, d.size = N := ⟨_, rfl⟩
  rw [hN] at q1 ⊢
  clear hp hn hN h hC hi h1 hsz
  go_enter Tryd.func102, Tryd.ntmps102
  go_wp2_with fail
  refine q1.mono ?_
  rintro e w1 ⟨rfl, k1⟩
  have HK := Lib.hid k1
  clear q1 k1
  go_wp2
  go_ret
  exact show OnePost enc B w0 blk d c _ _ _ by rw [HM.out]; exact ⟨rfl, HK.out⟩
end
end Go.Proofs.YtgkpoopiamicnaaDoor
