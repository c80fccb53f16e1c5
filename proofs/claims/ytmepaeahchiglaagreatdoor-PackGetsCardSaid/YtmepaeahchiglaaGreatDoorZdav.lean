/-
 layer 43: the reference's reader of a tree: its loop. (Printed by rdref.py.)
-/
import Derived.Test.YtmepaeahchiglaaGreatDoorZdat
set_option maxRecDepth 20000
set_option maxHeartbeats 8000000
set_option linter.unusedSimpArgs false
set_option linter.unusedVariables false
namespace Go.Proofs.YtmepaeahchiglaaGreatDoor
open Go.RowKit Go.Lib
noncomputable def uj : Code := mO Tryz.f49 0
theorem shist1 (Q0 : Exit → Act → World → Prop) (kV : ∀ c (a : Act) d v w, Q0 (.panic c) (a.put (some d) v) w → Q0 (.panic c) a w) (w Wi : World) (g n at1 bx : Nat) (all : List Nat) (b1 : Bool)
 (u1 u2 c1 c2 c6 c7 c8 c9 c10 c11 c12 c13 c14 c15 c16 c17 c18 c19 c20 c21 c22 c23 c24 c25 c26 c27 c28 c29 c30 c31 c32 c33 c34 c35 c36 c37 c38 c39 c40 c41 c42 c43 c44 c45 c46 c47 c48 c49 c50 c51 c52 c53 c54 c55 c56 c57 c58 c59 c60 c61 c62 c63 c64 c65 c66 c67 c68 c69 c70 c71 c72 c73 c74 c75 c76 c77 c78 c79 c80 c81 c82 c83 c84 c85 c86 c87 c88 c89 c90 c91 c92 c93 c94 c95 c96 c97 c98 c99 : Value)
 (hn30 : n ≤ 1073741824) (h : qz w Wi g at1 all b1 bx 29 #[.slice none 0 0, u1, u2]) (bE : bx < Wi.heap.size)
 (fe : ∀ (d5 d6 d15 d16 d17 d18 d19 d20 d21 d22 d23 d24 d25 d26 d27 d28 d29 d30 d31 d32 d33 d34 d35 d36 d37 d38 d39 : Value) (wr : World) (at' : Nat) (b' : Bool) (l : List (Nd)) (v : Value), sQ LC 2 CF 0 w Wi wr g n at1 all b1 bx 29 #[.slice none 0 0, u1, u2] at' b' l v → Q0 (.exit 0) ⟨List.toArray (af g :: c1 :: c2 :: .pointer (some ⟨bx, 0, none⟩) :: .int .i64 (n : Nat) :: d5 :: d6 :: c7 :: c8 :: c9 :: c10 :: c11 :: c12 :: c13 :: c14 :: d15 :: d16 :: d17 :: d18 :: d19 :: d20 :: d21 :: d22 :: d23 :: d24 :: d25 :: d26 :: d27 :: d28 :: d29 :: d30 :: d31 :: d32 :: d33 :: d34 :: d35 :: d36 :: d37 :: d38 :: d39 :: c40 :: c41 :: c42 :: c43 :: c44 :: c45 :: c46 :: c47 :: c48 :: c49 :: c50 :: c51 :: c52 :: c53 :: c54 :: c55 :: c56 :: c57 :: c58 :: c59 :: c60 :: c61 :: c62 :: c63 :: c64 :: c65 :: c66 :: c67 :: c68 :: c69 :: c70 :: c71 :: c72 :: c73 :: c74 :: c75 :: c76 :: c77 :: c78 :: c79 :: c80 :: c81 :: c82 :: c83 :: c84 :: c85 :: c86 :: c87 :: c88 :: c89 :: c90 :: c91 :: c92 :: c93 :: c94 :: c95 :: c96 :: c97 :: c98 :: c99 :: []), []⟩ wr) :
 Code.wp Tryz.prog (.loop uj) Q0 ⟨List.toArray (af g :: c1 :: c2 :: .pointer (some ⟨bx, 0, none⟩) :: .int .i64 (n : Nat) :: .int .i64 0 :: c6 :: c7 :: c8 :: c9 :: c10 :: c11 :: c12 :: c13 :: c14 :: c15 :: c16 :: c17 :: c18 :: c19 :: c20 :: c21 :: c22 :: c23 :: c24 :: c25 :: c26 :: c27 :: c28 :: c29 :: c30 :: c31 :: c32 :: c33 :: c34 :: c35 :: c36 :: c37 :: c38 :: c39 :: c40 :: c41 :: c42 :: c43 :: c44 :: c45 :: c46 :: c47 :: c48 :: c49 :: c50 :: c51 :: c52 :: c53 :: c54 :: c55 :: c56 :: c57 :: c58 :: c59 :: c60 :: c61 :: c62 :: c63 :: c64 :: c65 :: c66 :: c67 :: c68 :: c69 :: c70 :: c71 :: c72 :: c73 :: c74 :: c75 :: c76 :: c77 :: c78 :: c79 :: c80 :: c81 :: c82 :: c83 :: c84 :: c85 :: c86 :: c87 :: c88 :: c89 :: c90 :: c91 :: c92 :: c93 :: c94 :: c95 :: c96 :: c97 :: c98 :: c99 :: []), []⟩ Wi := by
 obtain ⟨i0, hi, hz0, hz1, hz2⟩ := info_parts (show (Tryz.prog.info? 78).map (fun i => (i.zero, i.size, i.bytes)) = some (some (.agg #[.int .i64 0, .string ⟨#[]⟩]), 2, 24) by kernel_rfl)
 unfold uj
 conv => arg 2; arg 1; whnf
 have HS := qh h; have nk := qh fe; have gK := qh kV
 clear h fe kV
 go_loopw [5] (fun i wr => ∃ k at' : Nat, ∃ b' : Bool, ∃ l : List (Nd), ∃ v : Value, ∃ xs : List Value, i = .int .i64 k ∧ fO LC 2 78 CF 0 w Wi wr g n at1 all b1 bx 29 #[.slice none 0 0, u1, u2] k at' b' l v xs) (fun i _ => n - (Lib.intOf i).toNat)
 case atStart => exact ⟨0, at1, b1, [], _, [], rfl, fO.start HS.out (by simp) rfl⟩
 case round =>
  obtain ⟨k, at', b', l, v, xs, rfl, hR⟩ := hrel
  obtain ⟨A5, c5, rfl, -, -⟩ := ownsRow_form hR.own
  obtain ⟨A, c, ⟨c0, c1, c2⟩, ⟨f0, f1, f2⟩, -, -, -⟩ := hR.st.rd.cells
  have hk := hR.hj
  have hsz := hR.ch.size
  have hgw := hR.st.gw; have hgb := hR.st.hb
  have HR := qh hR
  clear hR c0 c1 f0 f1 f2
  by_cases hkn : k < n
  ·have cB : (k : Int) < n := by omega
   cases b' with
   | true =>
     have HL := qh (HR.out.fin (aa _) (.inr rfl))
     clear HR HS
     go_wp2
     exact nk.out _ _ _ _ _ _ _ _ _ _ _ _ _ _ _ _ _ _ _ _ _ _ _ _ _ _ _ _ _ _ _ _ HL.out
   | false =>
     have bW := jv wr g at' all false HR.out.st.rd
     unfold oz at bW
     have aj := qh bW
     clear bW
     go_wp2_with fail
     refine aj.out.mono ?_
     rintro e wa ⟨x, Fu, ba, rfl, hx32, qd, hra, -, ga⟩
     dsimp only
     have QY : x < 4294967296 := hx32
     have KY := qh (show eT x ba (all.drop Fu) (readN (all.drop at')) from ga rfl)
     have hd := (HR.out.mid qd hra).drew
     have DZ := qd.size
     have hq := hd.bb.cell 0
     simp only [gq1, gq2] at hq
     have HD := qh hd; have gV := qh (ji wa.drew g Fu all ba hd.rd); have FI := qh qd
     clear hd qd hra ga hx32 aj c2
     go_wp2
     refine wp_region_held_drew (S := fun _ => True) (by kernel_rfl) trivial (fun ah => ?_)
     refine wpAnyH_take (i := 0) (v := ?_) rfl (by kernel_rfl) (by kernel_rfl) (by kernel_rfl) (fun _ _ _ h => gK.out _ _ _ _ _ h) (Or.inl ⟨by rfl, ?_⟩) trivial ?_
     rotate_left
     ·intro w hSw
      go_simp <;> with_reducible rfl
     try simp only [Act.put, gq3, gq1]
     refine wpAnyH_take (i := 2) (v := ?_) rfl (by kernel_rfl) (by kernel_rfl) (by kernel_rfl) (fun _ _ _ h => gK.out _ _ _ _ _ h) (Or.inl ⟨by rfl, ?_⟩) trivial ?_
     rotate_left
     ·intro w hSw
      go_simp <;> with_reducible rfl
     try simp only [Act.put, gq3, gq1]
     refine wpAnyH_take (i := 3) (v := ?_) rfl (by kernel_rfl) (by kernel_rfl) (by kernel_rfl) (fun _ _ _ h => gK.out _ _ _ _ _ h) (Or.inl ⟨by rfl, ?_⟩) trivial ?_
     rotate_left
     ·intro w hSw
      go_simp <;> with_reducible rfl
     try simp only [Act.put, gq3, gq1]
     refine rdJ 1 4 (fun K hK => ?_) fun K hK => ?_
     focus
      go_simp
      refine hK.out _ _ trivial (fun _ => ?_)
      clear hK K
      refine rdH 4 fun K hK => ?_
      go_simp
      (try go_wp2_with fail)
      refine gV.out.mono ?_
      rintro e w2 ⟨s, at2, b2, rfl, -, hc2, hr2, m2, g2⟩
      have HG := qh (show eT ((x : Int) - 1, s) b2 (all.drop at2) (CF (all.drop at')) from ak KY.out m2 fun k => ak (g2 k) id fun k2 => dO k2)
      clear m2 g2
      have hd2 := HD.out.aB hc2 hr2
      have ht2 := hd2.bb.cell 0
      have hsz2 := hc2.size
      have hc2 : av [g] wr w2 := FI.out.trans ((av.refl _ _).drew.trans hc2)
      have hsz20 := hc2.size
      have aL := qh (HR.out.own2 bE hc2)
      have ig := qh hc2; have HR2 := qh hr2
      have hd3 := hd2.alloc (.cells ([.int .i64 ((x : Int) - 1), .string s] : List Value).toArray 78)
      have ht3 := hd3.bb.cell 0
      simp only [gq1, gq2] at ht2 ht3
      have HD3 := qh hd3
      have dR := qh (az w2 78 [.int .i64 ((x : Int) - 1), .string s] 2 1 rfl)
      clear hc2 hr2 hd2 hd3
      (try go_simp)
      refine hK.out _ _ trivial (fun _ => ?_)
      clear hK K
      refine wpAnyH_take (i := 5) (v := ?_) rfl (by kernel_rfl) (by kernel_rfl) (by kernel_rfl) (fun _ _ _ h => gK.out _ _ _ _ _ h) (Or.inl ⟨by rfl, ?_⟩) trivial ?_
      rotate_left
      ·intro w hSw
       go_simp <;> with_reducible rfl
      try simp only [Act.put, gq3, gq1]
      refine rdH 6 fun K hK => ?_
      go_simp
      refine hK.out _ _ trivial (fun _ => ?_)
      clear hK K
     rotate_left
     focus
      go_simp
      (try go_wp2_with fail)
      refine gV.out.mono ?_
      rintro e w2 ⟨s, at2, b2, rfl, -, hc2, hr2, m2, g2⟩
      have HG := qh (show eT ((x : Int) - 1, s) b2 (all.drop at2) (CF (all.drop at')) from ak KY.out m2 fun k => ak (g2 k) id fun k2 => dO k2)
      clear m2 g2
      have hd2 := HD.out.aB hc2 hr2
      have ht2 := hd2.bb.cell 0
      have hsz2 := hc2.size
      have hc2 : av [g] wr w2 := FI.out.trans ((av.refl _ _).drew.trans hc2)
      have hsz20 := hc2.size
      have aL := qh (HR.out.own2 bE hc2)
      have ig := qh hc2; have HR2 := qh hr2
      have hd3 := hd2.alloc (.cells ([.int .i64 ((x : Int) - 1), .string s] : List Value).toArray 78)
      have ht3 := hd3.bb.cell 0
      simp only [gq1, gq2] at ht2 ht3
      have HD3 := qh hd3
      have dR := qh (az w2 78 [.int .i64 ((x : Int) - 1), .string s] 2 1 rfl)
      clear hc2 hr2 hd2 hd3
      (try go_simp)
      refine hK.out _ _ trivial (fun _ => ?_)
      clear hK K
      refine wpAnyH_take (i := 5) (v := ?_) rfl (by kernel_rfl) (by kernel_rfl) (by kernel_rfl) (fun _ _ _ h => gK.out _ _ _ _ _ h) (Or.inl ⟨by rfl, ?_⟩) trivial ?_
      rotate_left
      ·intro w hSw
       go_simp <;> with_reducible rfl
      try simp only [Act.put, gq3, gq1]
      refine rdJ 1 6 (fun K hK => ?_) fun K hK => ?_
      rotate_left
      focus
       go_simp
       refine hK.out _ _ trivial (fun _ => ?_)
       clear hK K
       refine rdH 1 fun K hK => ?_
       go_simp
       refine hK.out _ _ trivial (fun _ => ?_)
       clear hK K
      rotate_left
      focus
       go_simp
       refine hK.out _ _ trivial (fun _ => ?_)
       clear hK K
       refine rdH 6 fun K hK => ?_
       go_simp
       refine hK.out _ _ trivial (fun _ => ?_)
       clear hK K
     all_goals
      refine rdH 7 fun K hK => ?_
      refine step_append_any _ (by rfl) (.tmp 32) (.tmp 37) 25 (by rfl) Wi.heap.size 78 i0 (.agg #[.int .i64 0, .string ⟨#[]⟩]) 2 24 Tryz.underlying25 hi hz0 hz1 hz2 (by rfl) (by decide) (.slice A5 k c5) k xs (by simp [Act.eval, Act.put]) (aL.out.alloc _) (w2.heap.size + 1) (some ⟨w2.heap.size, 0, none⟩) 1 1 [.int .i64 ((x : Int) - 1), .string s] (by simp [Act.eval, Act.put]) dR.out (by intro u hu; simp only [List.mem_cons, List.not_mem_nil, or_false] at hu; rcases hu with rfl | rfl <;> rfl) (by unfold maxLen; omega) (by omega) (by simp; omega) ?_
      intro v' w3 ai ag bK
      obtain ⟨A7, c7, rfl, hk7, hc7⟩ := ownsRow_form ai
      have hd4 := HD3.out.grown ag (fun j hj => (aL.out.lt j hj).1) bE
      have ht4 := hd4.bb.cell 0
      have hf4 := hd4.bb.frozen 0
      simp only [gq1, gq2] at ht4
      have HN := qh (fO.next (aa _) HR.out hkn bE ig.out HR2.out rfl HG.out ai ag bK)
      clear hd4 ag bK ai hk7 hc7
      refine hK.out _ _ trivial (fun _ => ?_)
      clear hK K
      refine wpAnyH_take (i := 8) (v := ?_) rfl (by kernel_rfl) (by kernel_rfl) (by kernel_rfl) (fun _ _ _ h => gK.out _ _ _ _ _ h) (Or.inl ⟨by rfl, ?_⟩) trivial ?_
      rotate_left
      ·intro w hSw
       go_simp <;> with_reducible rfl
      try simp only [Act.put, gq3, gq1]
      refine rdH 9 fun K hK => ?_
      go_simp
      refine hK.out _ _ trivial (fun _ => ?_)
      clear hK K
      refine wpAnyH_done (by kernel_rfl) ?_ _
      clear hq ht2 ht3 ht4 hf4
      go_wp2
      go_roundw
      case rel => exact ⟨k + 1, at2, b2, l ++ [((x : Int) - 1, s)], _, _, by go_num, HN.out⟩
      case measure => simp [Lib.intOf]; omega
  ·obtain rfl : k = n := by omega
   have HL := qh (HR.out.fin (aa _) (.inl rfl))
   clear HR HS
   go_wp2
   exact nk.out _ _ _ _ _ _ _ _ _ _ _ _ _ _ _ _ _ _ _ _ _ _ _ _ _ _ _ _ _ _ _ _ HL.out
noncomputable def ui : Code := mO Tryz.f49 1
theorem shist2 (Q0 : Exit → Act → World → Prop) (kV : ∀ c (a : Act) d v w, Q0 (.panic c) (a.put (some d) v) w → Q0 (.panic c) a w) (w Wi : World) (g n at1 bx : Nat) (all : List Nat) (b1 : Bool)
 (u0 u2 c1 c2 c4 c5 c6 c9 c10 c11 c12 c13 c14 c15 c16 c17 c18 c19 c20 c21 c22 c23 c24 c25 c26 c27 c28 c29 c30 c31 c32 c33 c34 c35 c36 c37 c38 c39 c40 c41 c42 c43 c44 c45 c46 c47 c48 c49 c50 c51 c52 c53 c54 c55 c56 c57 c58 c59 c60 c61 c62 c63 c64 c65 c66 c67 c68 c69 c70 c71 c72 c73 c74 c75 c76 c77 c78 c79 c80 c81 c82 c83 c84 c85 c86 c87 c88 c89 c90 c91 c92 c93 c94 c95 c96 c97 c98 c99 : Value)
 (hn30 : n ≤ 1073741824) (h : qz w Wi g at1 all b1 bx 29 #[u0, .slice none 0 0, u2]) (bE : bx < Wi.heap.size)
 (fe : ∀ (d8 d42 d43 d44 d45 d46 d47 d48 d49 d50 d51 d52 d53 d54 d55 d56 d57 d58 d59 d60 : Value) (wr : World) (at' : Nat) (b' : Bool) (l : List (Lw)) (v : Value), sQ iH 18 jH 1 w Wi wr g n at1 all b1 bx 29 #[u0, .slice none 0 0, u2] at' b' l v → Q0 (.exit 2) ⟨List.toArray (af g :: c1 :: c2 :: .pointer (some ⟨bx, 0, none⟩) :: c4 :: c5 :: c6 :: .int .i64 (n : Nat) :: d8 :: c9 :: c10 :: c11 :: c12 :: c13 :: c14 :: c15 :: c16 :: c17 :: c18 :: c19 :: c20 :: c21 :: c22 :: c23 :: c24 :: c25 :: c26 :: c27 :: c28 :: c29 :: c30 :: c31 :: c32 :: c33 :: c34 :: c35 :: c36 :: c37 :: c38 :: c39 :: c40 :: c41 :: d42 :: d43 :: d44 :: d45 :: d46 :: d47 :: d48 :: d49 :: d50 :: d51 :: d52 :: d53 :: d54 :: d55 :: d56 :: d57 :: d58 :: d59 :: d60 :: c61 :: c62 :: c63 :: c64 :: c65 :: c66 :: c67 :: c68 :: c69 :: c70 :: c71 :: c72 :: c73 :: c74 :: c75 :: c76 :: c77 :: c78 :: c79 :: c80 :: c81 :: c82 :: c83 :: c84 :: c85 :: c86 :: c87 :: c88 :: c89 :: c90 :: c91 :: c92 :: c93 :: c94 :: c95 :: c96 :: c97 :: c98 :: c99 :: []), []⟩ wr) :
 Code.wp Tryz.prog (.loop ui) Q0 ⟨List.toArray (af g :: c1 :: c2 :: .pointer (some ⟨bx, 0, none⟩) :: c4 :: c5 :: c6 :: .int .i64 (n : Nat) :: .int .i64 0 :: c9 :: c10 :: c11 :: c12 :: c13 :: c14 :: c15 :: c16 :: c17 :: c18 :: c19 :: c20 :: c21 :: c22 :: c23 :: c24 :: c25 :: c26 :: c27 :: c28 :: c29 :: c30 :: c31 :: c32 :: c33 :: c34 :: c35 :: c36 :: c37 :: c38 :: c39 :: c40 :: c41 :: c42 :: c43 :: c44 :: c45 :: c46 :: c47 :: c48 :: c49 :: c50 :: c51 :: c52 :: c53 :: c54 :: c55 :: c56 :: c57 :: c58 :: c59 :: c60 :: c61 :: c62 :: c63 :: c64 :: c65 :: c66 :: c67 :: c68 :: c69 :: c70 :: c71 :: c72 :: c73 :: c74 :: c75 :: c76 :: c77 :: c78 :: c79 :: c80 :: c81 :: c82 :: c83 :: c84 :: c85 :: c86 :: c87 :: c88 :: c89 :: c90 :: c91 :: c92 :: c93 :: c94 :: c95 :: c96 :: c97 :: c98 :: c99 :: []), []⟩ Wi := by
 obtain ⟨i0, hi, hz0, hz1, hz2⟩ := info_parts (show (Tryz.prog.info? 62).map (fun i => (i.zero, i.size, i.bytes)) = some (some (.agg #[.string ⟨#[]⟩, .int .i64 0, .int .u32 0, .int .u32 0, .bool false, .int .i64 0, .int .i64 0, .slice none 0 0, .int .i64 0, .int .u32 0, .int .u32 0, .bool false, .int .i64 0, .int .i64 0, .slice none 0 0, .slice none 0 0, .slice none 0 0, .int .i64 0]), 18, 200) by kernel_rfl)
 unfold ui
 conv => arg 2; arg 1; whnf
 have HS := qh h; have nk := qh fe; have gK := qh kV
 clear h fe kV
 go_loopw [8] (fun i wr => ∃ k at' : Nat, ∃ b' : Bool, ∃ l : List (Lw), ∃ v : Value, ∃ xs : List Value, i = .int .i64 k ∧ fO iH 18 62 jH 1 w Wi wr g n at1 all b1 bx 29 #[u0, .slice none 0 0, u2] k at' b' l v xs) (fun i _ => n - (Lib.intOf i).toNat)
 case atStart => exact ⟨0, at1, b1, [], _, [], rfl, fO.start HS.out (by simp) rfl⟩
 case round =>
  obtain ⟨k, at', b', l, v, xs, rfl, hR⟩ := hrel
  obtain ⟨A5, c5, rfl, -, -⟩ := ownsRow_form hR.own
  obtain ⟨A, c, ⟨c0, c1, c2⟩, ⟨f0, f1, f2⟩, -, -, -⟩ := hR.st.rd.cells
  have hk := hR.hj
  have hsz := hR.ch.size
  have hgw := hR.st.gw; have hgb := hR.st.hb
  have HR := qh hR
  clear hR c0 c1 f0 f1 f2
  by_cases hkn : k < n
  ·have cB : (k : Int) < n := by omega
   cases b' with
   | true =>
     have HL := qh (HR.out.fin aX (.inr rfl))
     clear HR HS
     go_wp2
     exact nk.out _ _ _ _ _ _ _ _ _ _ _ _ _ _ _ _ _ _ _ _ _ _ _ _ _ HL.out
   | false =>
     have hd := HR.out.st.drew
     have hq := hd.bb.cell 1
     simp only [gq1, gq2] at hq
     have HD := qh hd; have aj := qh (IY wr.drew g at' all false hd.rd)
     clear hd
     go_wp2
     refine wp_region_held_drew (S := fun _ => True) (by kernel_rfl) trivial (fun ah => ?_)
     refine wpAnyH_take (i := 0) (v := ?_) rfl (by kernel_rfl) (by kernel_rfl) (by kernel_rfl) (fun _ _ _ h => gK.out _ _ _ _ _ h) (Or.inl ⟨by rfl, ?_⟩) trivial ?_
     rotate_left
     ·intro w hSw
      go_simp <;> with_reducible rfl
     try simp only [Act.put, gq3, gq1]
     refine wpAnyH_take (i := 2) (v := ?_) rfl (by kernel_rfl) (by kernel_rfl) (by kernel_rfl) (fun _ _ _ h => gK.out _ _ _ _ _ h) (Or.inl ⟨by rfl, ?_⟩) trivial ?_
     rotate_left
     ·intro w hSw
      go_simp <;> with_reducible rfl
     try simp only [Act.put, gq3, gq1]
     refine rdJ 1 3 (fun K hK => ?_) fun K hK => ?_
     focus
      go_simp
      refine hK.out _ _ trivial (fun _ => ?_)
      clear hK K
      refine rdH 3 fun K hK => ?_
      go_simp
      (try go_wp2_with fail)
      refine aj.out.mono ?_
      rintro e w2 ⟨x, cs1, at2, b2, rfl, bV, -, hc2, hr2, m2, g2⟩
      obtain ⟨q1, q2, A3, c3, A4, c4, rfl, hq1, hq2, -⟩ := id bV
      obtain ⟨lk, ls, je, tu, tC, lA, ln, lc, rfl⟩ := hq1.form
      obtain ⟨qk, qs, iw, qN, qO, qA, qn, qc, rfl⟩ := hq2.form
      have HG := qh (g2 rfl); have nT := qh bV
      clear m2 g2 hq1 hq2 bV
      have hd2 := HD.out.aB hc2 hr2
      have ht2 := hd2.bb.cell 1
      have hsz2 := hc2.size
      have hc2 : av [g] wr w2 := (av.refl _ _).drew.trans hc2
      have hsz20 := hc2.size
      have aL := qh (HR.out.own2 bE hc2)
      have ig := qh hc2; have HR2 := qh hr2
      have hd3 := hd2.alloc (.cells ([.string x.name, .int .i64 lk, .int .u32 ls.1, .int .u32 ls.2, .bool je, .int .i64 tu, .int .i64 tC, .slice lA ln lc, .int .i64 qk, .int .u32 qs.1, .int .u32 qs.2, .bool iw, .int .i64 qN, .int .i64 qO, .slice qA qn qc, .slice A3 x.ifs.length c3, .slice A4 x.outs.length c4, .int .i64 x.mode] : List Value).toArray 62)
      have ht3 := hd3.bb.cell 1
      simp only [gq1, gq2] at ht2 ht3
      have HD3 := qh hd3
      have dR := qh (az w2 62 [.string x.name, .int .i64 lk, .int .u32 ls.1, .int .u32 ls.2, .bool je, .int .i64 tu, .int .i64 tC, .slice lA ln lc, .int .i64 qk, .int .u32 qs.1, .int .u32 qs.2, .bool iw, .int .i64 qN, .int .i64 qO, .slice qA qn qc, .slice A3 x.ifs.length c3, .slice A4 x.outs.length c4, .int .i64 x.mode] 18 1 rfl)
      clear hc2 hr2 hd2 hd3
      (try go_simp)
      refine hK.out _ _ trivial (fun _ => ?_)
      clear hK K
      refine rdH 4 fun K hK => ?_
      go_simp
      refine hK.out _ _ trivial (fun _ => ?_)
      clear hK K
     rotate_left
     focus
      go_simp
      (try go_wp2_with fail)
      refine aj.out.mono ?_
      rintro e w2 ⟨x, cs1, at2, b2, rfl, bV, -, hc2, hr2, m2, g2⟩
      obtain ⟨q1, q2, A3, c3, A4, c4, rfl, hq1, hq2, -⟩ := id bV
      obtain ⟨lk, ls, je, tu, tC, lA, ln, lc, rfl⟩ := hq1.form
      obtain ⟨qk, qs, iw, qN, qO, qA, qn, qc, rfl⟩ := hq2.form
      have HG := qh (g2 rfl); have nT := qh bV
      clear m2 g2 hq1 hq2 bV
      have hd2 := HD.out.aB hc2 hr2
      have ht2 := hd2.bb.cell 1
      have hsz2 := hc2.size
      have hc2 : av [g] wr w2 := (av.refl _ _).drew.trans hc2
      have hsz20 := hc2.size
      have aL := qh (HR.out.own2 bE hc2)
      have ig := qh hc2; have HR2 := qh hr2
      have hd3 := hd2.alloc (.cells ([.string x.name, .int .i64 lk, .int .u32 ls.1, .int .u32 ls.2, .bool je, .int .i64 tu, .int .i64 tC, .slice lA ln lc, .int .i64 qk, .int .u32 qs.1, .int .u32 qs.2, .bool iw, .int .i64 qN, .int .i64 qO, .slice qA qn qc, .slice A3 x.ifs.length c3, .slice A4 x.outs.length c4, .int .i64 x.mode] : List Value).toArray 62)
      have ht3 := hd3.bb.cell 1
      simp only [gq1, gq2] at ht2 ht3
      have HD3 := qh hd3
      have dR := qh (az w2 62 [.string x.name, .int .i64 lk, .int .u32 ls.1, .int .u32 ls.2, .bool je, .int .i64 tu, .int .i64 tC, .slice lA ln lc, .int .i64 qk, .int .u32 qs.1, .int .u32 qs.2, .bool iw, .int .i64 qN, .int .i64 qO, .slice qA qn qc, .slice A3 x.ifs.length c3, .slice A4 x.outs.length c4, .int .i64 x.mode] 18 1 rfl)
      clear hc2 hr2 hd2 hd3
      (try go_simp)
      refine hK.out _ _ trivial (fun _ => ?_)
      clear hK K
      refine rdJ 1 4 (fun K hK => ?_) fun K hK => ?_
      rotate_left
      focus
       go_simp
       refine hK.out _ _ trivial (fun _ => ?_)
       clear hK K
       refine rdH 1 fun K hK => ?_
       go_simp
       refine hK.out _ _ trivial (fun _ => ?_)
       clear hK K
      rotate_left
      focus
       go_simp
       refine hK.out _ _ trivial (fun _ => ?_)
       clear hK K
       refine rdH 4 fun K hK => ?_
       go_simp
       refine hK.out _ _ trivial (fun _ => ?_)
       clear hK K
     all_goals
      refine rdH 5 fun K hK => ?_
      refine step_append_any _ (by rfl) (.tmp 55) (.tmp 58) 26 (by rfl) Wi.heap.size 62 i0 (.agg #[.string ⟨#[]⟩, .int .i64 0, .int .u32 0, .int .u32 0, .bool false, .int .i64 0, .int .i64 0, .slice none 0 0, .int .i64 0, .int .u32 0, .int .u32 0, .bool false, .int .i64 0, .int .i64 0, .slice none 0 0, .slice none 0 0, .slice none 0 0, .int .i64 0]) 18 200 Tryz.underlying26 hi hz0 hz1 hz2 (by rfl) (by decide) (.slice A5 k c5) k xs (by simp [Act.eval, Act.put]) (aL.out.alloc _) (w2.heap.size + 1) (some ⟨w2.heap.size, 0, none⟩) 1 1 [.string x.name, .int .i64 lk, .int .u32 ls.1, .int .u32 ls.2, .bool je, .int .i64 tu, .int .i64 tC, .slice lA ln lc, .int .i64 qk, .int .u32 qs.1, .int .u32 qs.2, .bool iw, .int .i64 qN, .int .i64 qO, .slice qA qn qc, .slice A3 x.ifs.length c3, .slice A4 x.outs.length c4, .int .i64 x.mode] (by simp [Act.eval, Act.put]) dR.out (by intro u hu; simp only [List.mem_cons, List.not_mem_nil, or_false] at hu; rcases hu with rfl | rfl | rfl | rfl | rfl | rfl | rfl | rfl | rfl | rfl | rfl | rfl | rfl | rfl | rfl | rfl | rfl | rfl <;> rfl) (by unfold maxLen; omega) (by omega) (by simp; omega) ?_
      intro v' w3 ai ag bK
      obtain ⟨A7, c7, rfl, hk7, hc7⟩ := ownsRow_form ai
      have hd4 := HD3.out.grown ag (fun j hj => (aL.out.lt j hj).1) bE
      have ht4 := hd4.bb.cell 1
      have hf4 := hd4.bb.frozen 1
      simp only [gq1, gq2] at ht4
      have HN := qh (fO.next aX HR.out hkn bE ig.out HR2.out nT.out HG.out ai ag bK)
      clear hd4 ag bK ai hk7 hc7
      refine hK.out _ _ trivial (fun _ => ?_)
      clear hK K
      refine wpAnyH_take (i := 6) (v := ?_) rfl (by kernel_rfl) (by kernel_rfl) (by kernel_rfl) (fun _ _ _ h => gK.out _ _ _ _ _ h) (Or.inl ⟨by rfl, ?_⟩) trivial ?_
      rotate_left
      ·intro w hSw
       go_simp <;> with_reducible rfl
      try simp only [Act.put, gq3, gq1]
      refine rdH 7 fun K hK => ?_
      go_simp
      refine hK.out _ _ trivial (fun _ => ?_)
      clear hK K
      refine wpAnyH_done (by kernel_rfl) ?_ _
      clear hq ht2 ht3 ht4 hf4
      go_wp2
      go_roundw
      case rel => exact ⟨k + 1, at2, b2, l ++ [x], _, _, by go_num, HN.out⟩
      case measure => simp [Lib.intOf]; omega
  ·obtain rfl : k = n := by omega
   have HL := qh (HR.out.fin aX (.inl rfl))
   clear HR HS
   go_wp2
   exact nk.out _ _ _ _ _ _ _ _ _ _ _ _ _ _ _ _ _ _ _ _ _ _ _ _ _ HL.out
noncomputable def ug : Code := mO Tryz.f49 3
theorem shist4 (Q0 : Exit → Act → World → Prop) (Wi : World) (g n at1 : Nat) (all : List Nat) (b1 : Bool)
 (c1 c2 c3 c4 c5 c6 c8 c9 c12 c13 c14 c15 c16 c17 c18 c19 c20 c21 c22 c23 c24 c25 c26 c27 c28 c29 c30 c31 c32 c33 c34 c35 c36 c37 c38 c39 c40 c41 c42 c43 c44 c45 c46 c47 c48 c49 c50 c51 c52 c53 c54 c55 c56 c57 c58 c59 c60 c61 c62 c63 c64 c65 c66 c67 c68 c69 c70 c71 c72 c73 c74 c75 c76 c77 c78 c79 c80 c81 c82 c83 c84 c85 c86 c87 c88 c89 c90 c91 c92 c93 c94 c95 c96 c97 c98 c99 : Value) (hn30 : n ≤ 1073741824) (h : RS Wi g all at1 b1)
 (fe : ∀ (d11 d75 d76 d77 d78 d79 d80 d81 d82 d83 d84 d85 d86 d87 d88 d89 d90 d91 d92 : Value) (wr : World) (at' : Nat) (b' : Bool) (l : List Int) (v : Value), TN xu 1 lG Wi wr g n at1 all b1 at' b' l v → Q0 (.exit 6) ⟨List.toArray (af g :: c1 :: c2 :: c3 :: c4 :: c5 :: c6 :: .int .i64 (n : Nat) :: c8 :: c9 :: v :: d11 :: c12 :: c13 :: c14 :: c15 :: c16 :: c17 :: c18 :: c19 :: c20 :: c21 :: c22 :: c23 :: c24 :: c25 :: c26 :: c27 :: c28 :: c29 :: c30 :: c31 :: c32 :: c33 :: c34 :: c35 :: c36 :: c37 :: c38 :: c39 :: c40 :: c41 :: c42 :: c43 :: c44 :: c45 :: c46 :: c47 :: c48 :: c49 :: c50 :: c51 :: c52 :: c53 :: c54 :: c55 :: c56 :: c57 :: c58 :: c59 :: c60 :: c61 :: c62 :: c63 :: c64 :: c65 :: c66 :: c67 :: c68 :: c69 :: c70 :: c71 :: c72 :: c73 :: c74 :: d75 :: d76 :: d77 :: d78 :: d79 :: d80 :: d81 :: d82 :: d83 :: d84 :: d85 :: d86 :: d87 :: d88 :: d89 :: d90 :: d91 :: d92 :: c93 :: c94 :: c95 :: c96 :: c97 :: c98 :: c99 :: []), []⟩ wr) :
 Code.wp Tryz.prog (.loop ug) Q0 ⟨List.toArray (af g :: c1 :: c2 :: c3 :: c4 :: c5 :: c6 :: .int .i64 (n : Nat) :: c8 :: c9 :: .slice none 0 0 :: .int .i64 0 :: c12 :: c13 :: c14 :: c15 :: c16 :: c17 :: c18 :: c19 :: c20 :: c21 :: c22 :: c23 :: c24 :: c25 :: c26 :: c27 :: c28 :: c29 :: c30 :: c31 :: c32 :: c33 :: c34 :: c35 :: c36 :: c37 :: c38 :: c39 :: c40 :: c41 :: c42 :: c43 :: c44 :: c45 :: c46 :: c47 :: c48 :: c49 :: c50 :: c51 :: c52 :: c53 :: c54 :: c55 :: c56 :: c57 :: c58 :: c59 :: c60 :: c61 :: c62 :: c63 :: c64 :: c65 :: c66 :: c67 :: c68 :: c69 :: c70 :: c71 :: c72 :: c73 :: c74 :: c75 :: c76 :: c77 :: c78 :: c79 :: c80 :: c81 :: c82 :: c83 :: c84 :: c85 :: c86 :: c87 :: c88 :: c89 :: c90 :: c91 :: c92 :: c93 :: c94 :: c95 :: c96 :: c97 :: c98 :: c99 :: []), []⟩ Wi := by
 obtain ⟨i0, hi, hz0, hz1, hz2⟩ := info_parts (show (Tryz.prog.info? 3).map (fun i => (i.zero, i.size, i.bytes)) = some (some (.int .i64 0), 1, 8) by kernel_rfl)
 unfold ug
 conv => arg 2; arg 1; whnf
 have HS := qh h; have nk := qh fe
 clear h fe
 go_loopw [10, 11] (fun v i wr => ∃ k at' : Nat, ∃ b' : Bool, ∃ l : List Int, ∃ xs : List Value, i = .int .i64 k ∧ sP xu 1 3 lG Wi wr g n at1 all b1 k at' b' l v xs) (fun _ i _ => n - (Lib.intOf i).toNat)
 case atStart => exact ⟨0, at1, b1, [], [], rfl, sP.start HS.out⟩
 case round =>
  obtain ⟨k, at', b', l, xs, rfl, hR⟩ := hrel
  obtain ⟨A, c, ⟨c0, c1, c2⟩, ⟨f0, f1, f2⟩, -, -, -⟩ := hR.rd.cells
  have hk := hR.hj
  have hsz := hR.ch.size
  have hgw := hR.gw
  have HR := qh hR
  clear hR c0 c1 f0 f1 f2
  by_cases hkn : k < n
  ·have cB : (k : Int) < n := by omega
   cases b' with
   | true =>
     have HL := qh (HR.out.fin (aa _) (.inr rfl))
     clear HR HS
     go_wp2
     exact nk.out _ _ _ _ _ _ _ _ _ _ _ _ _ _ _ _ _ _ _ _ _ _ _ _ HL.out
   | false =>
     have bW := jv wr g at' all false HR.out.rd
     unfold oz at bW
     have aj := qh bW
     clear bW
     go_wp2_with fail
     refine aj.out.mono ?_
     rintro e w2 ⟨x, at2, b2, rfl, hx32, hc2, hr2, -, g2⟩
     dsimp only
     have QY : x < 4294967296 := hx32
     have hsz2 := hc2.size
     have HG := qh (show eT (x : Int) b2 (all.drop at2) (lG (all.drop at')) from ak (show eT x b2 _ _ from g2 rfl) id fun k => dO k)
     have aL := qh (HR.out.own2 hc2)
     have dR := qh (az w2 3 [.int .i64 (x : Int)] 1 1 rfl)
     have ig := qh hc2; have HR2 := qh hr2
     clear hc2 hr2 g2 hx32 aj c2
     go_wp2_with (at_builtin; go_loud (refine wpList_append_any _ rfl _ _ 144 rfl Wi.heap.size 3 i0 (.int .i64 0) 1 8 Tryz.underlying144 hi hz0 hz1 hz2 rfl (by decide) _ _ _ rfl (aL.out.alloc _) _ _ _ _ [.int .i64 (x : Int)] rfl dR.out (by intro u hu; rw [List.mem_singleton.1 hu]; rfl) (by unfold maxLen; omega) (by omega) (by simp; omega) ?_; intro v' w3 ai ag bK; have HN := qh (sP.next (aa _) HR.out hkn ig.out HR2.out (show xu _ _ (x : Int) _ from rfl) HG.out ai ag bK); clear ag bK ai))
     go_roundw
     case rel => exact ⟨k + 1, at2, b2, l ++ [(x : Int)], _, by go_num, HN.out⟩
     case measure => simp [Lib.intOf]; omega
  ·obtain rfl : k = n := by omega
   have HL := qh (HR.out.fin (aa _) (.inl rfl))
   clear HR HS
   go_wp2
   exact nk.out _ _ _ _ _ _ _ _ _ _ _ _ _ _ _ _ _ _ _ _ _ _ _ _ HL.out
noncomputable def uh : Code := mO Tryz.f49 2
theorem shist3 (Q0 : Exit → Act → World → Prop) (kV : ∀ c (a : Act) d v w, Q0 (.panic c) (a.put (some d) v) w → Q0 (.panic c) a w) (w Wi : World) (g n at1 bx : Nat) (all : List Nat) (b1 : Bool)
 (u0 u1 c1 c2 c5 c6 c7 c8 c10 c11 c12 c13 c14 c15 c16 c17 c18 c19 c20 c21 c22 c23 c24 c25 c26 c27 c28 c29 c30 c31 c32 c33 c34 c35 c36 c37 c38 c39 c40 c41 c42 c43 c44 c45 c46 c47 c48 c49 c50 c51 c52 c53 c54 c55 c56 c57 c58 c59 c60 c61 c62 c63 c64 c65 c66 c67 c68 c69 c70 c71 c72 c73 c74 c75 c76 c77 c78 c79 c80 c81 c82 c83 c84 c85 c86 c87 c88 c89 c90 c91 c92 c93 c94 c95 c96 c97 c98 c99 : Value)
 (hn30 : n ≤ 1073741824) (h : qz w Wi g at1 all b1 bx 29 #[u0, u1, .slice none 0 0]) (bE : bx < Wi.heap.size)
 (fe : ∀ (d7 d9 d10 d11 d61 d62 d63 d64 d65 d66 d67 d68 d69 d70 d71 d72 d73 d74 d75 d76 d77 d78 d79 d80 d81 d82 d83 d84 d85 d86 d87 d88 d89 d90 d91 d92 d93 d94 d95 d96 d97 d98 : Value) (wr : World) (at' : Nat) (b' : Bool) (l : List (List Int)) (v : Value), sQ zG 1 (someR lG) 2 w Wi wr g n at1 all b1 bx 29 #[u0, u1, .slice none 0 0] at' b' l v → Q0 (.exit 4) ⟨List.toArray (af g :: c1 :: c2 :: .pointer (some ⟨bx, 0, none⟩) :: .int .i64 (n : Nat) :: c5 :: c6 :: d7 :: c8 :: d9 :: d10 :: d11 :: c12 :: c13 :: c14 :: c15 :: c16 :: c17 :: c18 :: c19 :: c20 :: c21 :: c22 :: c23 :: c24 :: c25 :: c26 :: c27 :: c28 :: c29 :: c30 :: c31 :: c32 :: c33 :: c34 :: c35 :: c36 :: c37 :: c38 :: c39 :: c40 :: c41 :: c42 :: c43 :: c44 :: c45 :: c46 :: c47 :: c48 :: c49 :: c50 :: c51 :: c52 :: c53 :: c54 :: c55 :: c56 :: c57 :: c58 :: c59 :: c60 :: d61 :: d62 :: d63 :: d64 :: d65 :: d66 :: d67 :: d68 :: d69 :: d70 :: d71 :: d72 :: d73 :: d74 :: d75 :: d76 :: d77 :: d78 :: d79 :: d80 :: d81 :: d82 :: d83 :: d84 :: d85 :: d86 :: d87 :: d88 :: d89 :: d90 :: d91 :: d92 :: d93 :: d94 :: d95 :: d96 :: d97 :: d98 :: c99 :: []), []⟩ wr) :
 Code.wp Tryz.prog (.loop uh) Q0 ⟨List.toArray (af g :: c1 :: c2 :: .pointer (some ⟨bx, 0, none⟩) :: .int .i64 (n : Nat) :: c5 :: c6 :: c7 :: c8 :: .int .i64 0 :: c10 :: c11 :: c12 :: c13 :: c14 :: c15 :: c16 :: c17 :: c18 :: c19 :: c20 :: c21 :: c22 :: c23 :: c24 :: c25 :: c26 :: c27 :: c28 :: c29 :: c30 :: c31 :: c32 :: c33 :: c34 :: c35 :: c36 :: c37 :: c38 :: c39 :: c40 :: c41 :: c42 :: c43 :: c44 :: c45 :: c46 :: c47 :: c48 :: c49 :: c50 :: c51 :: c52 :: c53 :: c54 :: c55 :: c56 :: c57 :: c58 :: c59 :: c60 :: c61 :: c62 :: c63 :: c64 :: c65 :: c66 :: c67 :: c68 :: c69 :: c70 :: c71 :: c72 :: c73 :: c74 :: c75 :: c76 :: c77 :: c78 :: c79 :: c80 :: c81 :: c82 :: c83 :: c84 :: c85 :: c86 :: c87 :: c88 :: c89 :: c90 :: c91 :: c92 :: c93 :: c94 :: c95 :: c96 :: c97 :: c98 :: c99 :: []), []⟩ Wi := by
 obtain ⟨i0, hi, hz0, hz1, hz2⟩ := info_parts (show (Tryz.prog.info? 144).map (fun i => (i.zero, i.size, i.bytes)) = some (some (.slice none 0 0), 1, 24) by kernel_rfl)
 unfold uh
 conv => arg 2; arg 1; whnf
 have HS := qh h; have nk := qh fe; have gK := qh kV
 clear h fe kV
 go_loopw [9] (fun i wr => ∃ k at' : Nat, ∃ b' : Bool, ∃ l : List (List Int), ∃ v : Value, ∃ xs : List Value, i = .int .i64 k ∧ fO zG 1 144 (someR lG) 2 w Wi wr g n at1 all b1 bx 29 #[u0, u1, .slice none 0 0] k at' b' l v xs) (fun i _ => n - (Lib.intOf i).toNat)
 case atStart => exact ⟨0, at1, b1, [], _, [], rfl, fO.start HS.out (by simp) rfl⟩
 case round =>
  obtain ⟨k, at', b', l, v, xs, rfl, hR⟩ := hrel
  obtain ⟨A, c, ⟨c0, c1, c2⟩, ⟨f0, f1, f2⟩, -, -, -⟩ := hR.st.rd.cells
  have hk := hR.hj
  have hsz := hR.ch.size
  have hgw := hR.st.gw; have hgb := hR.st.hb
  have HR := qh hR
  clear hR c0 c1 f0 f1 f2
  by_cases hkn : k < n
  ·have cB : (k : Int) < n := by omega
   cases b' with
   | true =>
     have HL := qh (HR.out.fin cO (.inr rfl))
     clear HR HS
     go_wp2
     exact nk.out _ _ _ _ _ _ _ _ _ _ _ _ _ _ _ _ _ _ _ _ _ _ _ _ _ _ _ _ _ _ _ _ _ _ _ _ _ _ _ _ _ _ _ _ _ _ _ HL.out
   | false =>
     have aj := qh (bZ wr g at' all false HR.out.st.rd)
     go_wp2_with fail
     refine aj.out.mono ?_
     rintro e wa ⟨m, Fu, ba, rfl, hm, -, qd, hra, -, hmm⟩
     have hm30 : m ≤ 1073741824 := by have := hra.all; omega
     have DZ := qd.size
     have FI := qh qd; have Zm := qh hra; have VL := qh hmm
     clear qd hra hmm hm aj c2
     go_wp2_with fail
     refine shist4 _ wa g m Fu all ba _ _ _ _ _ _ _ _ _ _ _ _ _ _ _ _ _ _ _ _ _ _ _ _ _ _ _ _ _ _ _ _ _ _ _ _ _ _ _ _ _ _ _ _ _ _ _ _ _ _ _ _ _ _ _ _ _ _ _ _ _ _ _ _ _ _ _ _ _ _ _ _ _ _ _ _ _ _ _ _ _ _ _ _ _ _ _ _ _ _ _ _ _ _ _ _ hm30 Zm.out ?_
     intro d11 d75 d76 d77 d78 d79 d80 d81 d82 d83 d84 d85 d86 d87 d88 d89 d90 d91 d92 w2 at2 b2 s v2 hE
     obtain ⟨A6, c6, rfl⟩ := hE.sl.form
     have nT := qh (show zG w2 (dW wr w2) s [.slice A6 s.length c6] from ⟨_, rfl, dw.pQ (aa _) hE.sl DZ⟩)
     have HG := qh (show eT s b2 (all.drop at2) (someR lG (all.drop at')) from vN (bad := false) (fun _ => VL.out trivial) hE.inv hE.full rfl)
     have ig := qh (FI.out.trans hE.ch); have HR2 := qh hE.rd
     have HD2 := qh (HR.out.mid ig.out HR2.out)
     clear hE VL Zm
     have aL := qh (HR.out.own2 bE ig.out)
     have hrn := az w2 144 [.slice A6 s.length c6] 1 1 rfl
     have dR := qh hrn
     clear hrn
     have hd3 := HD2.out.alloc (.cells ([.slice A6 s.length c6] : List Value).toArray 144)
     have ht2 := HD2.out.bb.cell 2
     simp only [gq1, gq2] at ht2
     have HD3 := qh hd3
     have hsz20 := ig.out.size
     clear hd3
     go_wp2_with (at_builtin; refine wpList_append_any _ rfl _ _ 27 rfl Wi.heap.size 144 i0 (.slice none 0 0) 1 24 Tryz.underlying27 hi hz0 hz1 hz2 rfl (by decide) _ _ _ rfl (aL.out.alloc _) _ _ _ _ [.slice A6 s.length c6] rfl dR.out (by intro u hu; rw [List.mem_singleton.1 hu]; rfl) (by unfold maxLen; omega) (by omega) (by simp; omega) ?_; intro v' w3 ai ag bK; obtain ⟨A7, c7, rfl, -, -⟩ := ownsRow_form ai; have hd4 := HD3.out.grown ag (fun j hj => (aL.out.lt j hj).1) bE; have ht4 := hd4.bb.cell 2; have hf4 := hd4.bb.frozen 2; simp only [gq1, gq2] at ht4; have HN := qh (fO.next cO HR.out hkn bE ig.out HR2.out nT.out HG.out ai ag bK); clear hd4 ag bK ai)
     go_roundw
     case rel => exact ⟨k + 1, at2, b2, l ++ [s], _, _, by go_num, HN.out⟩
     case measure => simp [Lib.intOf]; omega
  ·obtain rfl : k = n := by omega
   have HL := qh (HR.out.fin cO (.inl rfl))
   clear HR HS
   go_wp2
   exact nk.out _ _ _ _ _ _ _ _ _ _ _ _ _ _ _ _ _ _ _ _ _ _ _ _ _ _ _ _ _ _ _ _ _ _ _ _ _ _ _ _ _ _ _ _ _ _ _ HL.out
end Go.Proofs.YtmepaeahchiglaaGreatDoor
