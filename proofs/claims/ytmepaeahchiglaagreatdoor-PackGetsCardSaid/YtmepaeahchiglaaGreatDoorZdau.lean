/-
 layer 43: the reference's reader of sounds' names: its loop. (Printed by rdref.py.)
-/
import Derived.Test.YtmepaeahchiglaaGreatDoorZdat
set_option maxRecDepth 20000
set_option maxHeartbeats 8000000
set_option linter.unusedSimpArgs false
set_option linter.unusedVariables false
namespace Go.Proofs.YtmepaeahchiglaaGreatDoor
open Go.RowKit Go.Lib
noncomputable def rJ : Code := mO Tryz.f48 1
theorem snames2 (Q0 : Exit → Act → World → Prop) (kV : ∀ c (a : Act) d v w, Q0 (.panic c) (a.put (some d) v) w → Q0 (.panic c) a w) (w Wi : World) (g n at1 bx : Nat) (all : List Nat) (b1 : Bool)
 (u0 u2 u3 u4 u5 u6 u7 c1 c2 c4 c6 c8 c9 c10 c11 c12 c13 c14 c15 c16 c17 c18 c19 c20 c21 c22 c23 c24 c25 c26 c27 c28 c29 c30 c31 c32 c33 c34 c35 c36 c37 c38 c39 c40 c41 c42 c43 c44 c45 c46 c47 c48 c49 c50 c51 c52 c53 c54 c55 c56 c57 c58 c59 c60 c61 c62 c63 c64 c65 c66 c67 c68 c69 c70 c71 c72 c73 c74 c75 c76 c77 c78 c79 c80 c81 c82 c83 c84 c85 c86 : Value)
 (hn30 : n ≤ 1073741824) (h : qz w Wi g at1 all b1 bx 33 #[u0, .slice none 0 0, u2, u3, u4, u5, u6, u7]) (bE : bx < Wi.heap.size)
 (fe : ∀ (d7 d8 d34 d35 d36 d37 d38 d39 d40 d41 d42 d43 d44 d45 d46 d47 d48 d49 d50 d51 d52 d53 d54 d55 d56 : Value) (wr : World) (at' : Nat) (b' : Bool) (l : List (fw)) (v : Value), sQ xn 3 lC 1 w Wi wr g n at1 all b1 bx 33 #[u0, .slice none 0 0, u2, u3, u4, u5, u6, u7] at' b' l v → Q0 (.exit 2) ⟨List.toArray (af g :: c1 :: c2 :: .pointer (some ⟨bx, 0, none⟩) :: c4 :: .int .i64 (n : Nat) :: c6 :: d7 :: d8 :: c9 :: c10 :: c11 :: c12 :: c13 :: c14 :: c15 :: c16 :: c17 :: c18 :: c19 :: c20 :: c21 :: c22 :: c23 :: c24 :: c25 :: c26 :: c27 :: c28 :: c29 :: c30 :: c31 :: c32 :: c33 :: d34 :: d35 :: d36 :: d37 :: d38 :: d39 :: d40 :: d41 :: d42 :: d43 :: d44 :: d45 :: d46 :: d47 :: d48 :: d49 :: d50 :: d51 :: d52 :: d53 :: d54 :: d55 :: d56 :: c57 :: c58 :: c59 :: c60 :: c61 :: c62 :: c63 :: c64 :: c65 :: c66 :: c67 :: c68 :: c69 :: c70 :: c71 :: c72 :: c73 :: c74 :: c75 :: c76 :: c77 :: c78 :: c79 :: c80 :: c81 :: c82 :: c83 :: c84 :: c85 :: c86 :: []), []⟩ wr) :
 Code.wp Tryz.prog (.loop rJ) Q0 ⟨List.toArray (af g :: c1 :: c2 :: .pointer (some ⟨bx, 0, none⟩) :: c4 :: .int .i64 (n : Nat) :: c6 :: .int .i64 0 :: c8 :: c9 :: c10 :: c11 :: c12 :: c13 :: c14 :: c15 :: c16 :: c17 :: c18 :: c19 :: c20 :: c21 :: c22 :: c23 :: c24 :: c25 :: c26 :: c27 :: c28 :: c29 :: c30 :: c31 :: c32 :: c33 :: c34 :: c35 :: c36 :: c37 :: c38 :: c39 :: c40 :: c41 :: c42 :: c43 :: c44 :: c45 :: c46 :: c47 :: c48 :: c49 :: c50 :: c51 :: c52 :: c53 :: c54 :: c55 :: c56 :: c57 :: c58 :: c59 :: c60 :: c61 :: c62 :: c63 :: c64 :: c65 :: c66 :: c67 :: c68 :: c69 :: c70 :: c71 :: c72 :: c73 :: c74 :: c75 :: c76 :: c77 :: c78 :: c79 :: c80 :: c81 :: c82 :: c83 :: c84 :: c85 :: c86 :: []), []⟩ Wi := by
 obtain ⟨i0, hi, hz0, hz1, hz2⟩ := info_parts (show (Tryz.prog.info? 74).map (fun i => (i.zero, i.size, i.bytes)) = some (some (.agg #[.string ⟨#[]⟩, .int .u32 0, .int .u32 0]), 3, 24) by kernel_rfl)
 unfold rJ
 conv => arg 2; arg 1; whnf
 have HS := qh h; have nk := qh fe; have gK := qh kV
 clear h fe kV
 go_loopw [7] (fun i wr => ∃ k at' : Nat, ∃ b' : Bool, ∃ l : List (fw), ∃ v : Value, ∃ xs : List Value, i = .int .i64 k ∧ fO xn 3 74 lC 1 w Wi wr g n at1 all b1 bx 33 #[u0, .slice none 0 0, u2, u3, u4, u5, u6, u7] k at' b' l v xs) (fun i _ => n - (Lib.intOf i).toNat)
 case atStart => exact ⟨0, at1, b1, [], _, [], rfl, fO.start HS.out (by simp) rfl⟩
 case round =>
  obtain ⟨k, at', b', l, v, xs, rfl, hR⟩ := hrel
  obtain ⟨A5, c5, rfl, -, -⟩ := ownsRow_form hR.own
  obtain ⟨A, c, ⟨c0, c1, c2⟩, ⟨f0, f1, f2⟩, -, -, -⟩ := hR.st.rd.cells
  have hk := hR.hj
  have hsz := hR.ch.size
  have hgw := hR.st.gw; have hgb := hR.st.hb
  have HR := qh hR
  clear hR c0 c1 f0 f1 f2
  by_cases hkn : k < n
  ·have cB : (k : Int) < n := by omega
   cases b' with
   | true =>
     have HL := qh (HR.out.fin (aa _) (.inr rfl))
     clear HR HS
     go_wp2
     exact nk.out _ _ _ _ _ _ _ _ _ _ _ _ _ _ _ _ _ _ _ _ _ _ _ _ _ _ _ _ _ _ HL.out
   | false =>
     have aj := qh (ji wr g at' all false HR.out.st.rd)
     go_wp2_with fail
     refine aj.out.mono ?_
     rintro e wa ⟨x, Fu, ba, rfl, -, qd, hra, -, ga⟩
     have KY := qh (show eT x ba (all.drop Fu) (bg (all.drop at')) from ga rfl)
     have hd := (HR.out.mid qd hra).drew
     have DZ := qd.size
     have hq := hd.bb.cell 1
     simp only [gq1, gq2] at hq
     have HD := qh hd; have gV := qh (mF wa.drew g Fu all ba hd.rd); have FI := qh qd
     clear hd qd hra ga aj c2
     go_wp2
     refine wp_region_held_drew (S := fun _ => True) (by kernel_rfl) trivial (fun ah => ?_)
     refine wpAnyH_take (i := 0) (v := ?_) rfl (by kernel_rfl) (by kernel_rfl) (by kernel_rfl) (fun _ _ _ h => gK.out _ _ _ _ _ h) (Or.inl ⟨by rfl, ?_⟩) trivial ?_
     rotate_left
     ·intro w hSw
      go_simp <;> with_reducible rfl
     try simp only [Act.put, gq3, gq1]
     refine wpAnyH_take (i := 2) (v := ?_) rfl (by kernel_rfl) (by kernel_rfl) (by kernel_rfl) (fun _ _ _ h => gK.out _ _ _ _ _ h) (Or.inl ⟨by rfl, ?_⟩) trivial ?_
     rotate_left
     ·intro w hSw
      go_simp <;> with_reducible rfl
     try simp only [Act.put, gq3, gq1]
     refine wpAnyH_take (i := 3) (v := ?_) rfl (by kernel_rfl) (by kernel_rfl) (by kernel_rfl) (fun _ _ _ h => gK.out _ _ _ _ _ h) (Or.inl ⟨by rfl, ?_⟩) trivial ?_
     rotate_left
     ·intro w hSw
      go_simp <;> with_reducible rfl
     try simp only [Act.put, gq3, gq1]
     refine rdJ 1 4 (fun K hK => ?_) fun K hK => ?_
     focus
      go_simp
      refine hK.out _ _ trivial (fun _ => ?_)
      clear hK K
      refine rdH 4 fun K hK => ?_
      go_simp
      (try go_wp2_with fail)
      refine gV.out.mono ?_
      rintro e w2 ⟨s, at2, b2, rfl, -, hc2, hr2, m2, g2⟩
      have HG := qh (show eT (x, s) b2 (all.drop at2) (lC (all.drop at')) from ak KY.out m2 fun k => ak (g2 k) id fun k2 => dO k2)
      clear m2 g2
      have hd2 := HD.out.aB hc2 hr2
      have ht2 := hd2.bb.cell 1
      have hsz2 := hc2.size
      have hc2 : av [g] wr w2 := FI.out.trans ((av.refl _ _).drew.trans hc2)
      have hsz20 := hc2.size
      have aL := qh (HR.out.own2 bE hc2)
      have ig := qh hc2; have HR2 := qh hr2
      have hd3 := hd2.alloc (.cells ([.string x, .int .u32 s.1, .int .u32 s.2] : List Value).toArray 74)
      have ht3 := hd3.bb.cell 1
      simp only [gq1, gq2] at ht2 ht3
      have HD3 := qh hd3
      have dR := qh (az w2 74 [.string x, .int .u32 s.1, .int .u32 s.2] 3 1 rfl)
      clear hc2 hr2 hd2 hd3
      (try go_simp)
      refine hK.out _ _ trivial (fun _ => ?_)
      clear hK K
      refine wpAnyH_take (i := 5) (v := ?_) rfl (by kernel_rfl) (by kernel_rfl) (by kernel_rfl) (fun _ _ _ h => gK.out _ _ _ _ _ h) (Or.inl ⟨by rfl, ?_⟩) trivial ?_
      rotate_left
      ·intro w hSw
       go_simp <;> with_reducible rfl
      try simp only [Act.put, gq3, gq1]
      refine rdH 6 fun K hK => ?_
      go_simp
      refine hK.out _ _ trivial (fun _ => ?_)
      clear hK K
     rotate_left
     focus
      go_simp
      (try go_wp2_with fail)
      refine gV.out.mono ?_
      rintro e w2 ⟨s, at2, b2, rfl, -, hc2, hr2, m2, g2⟩
      have HG := qh (show eT (x, s) b2 (all.drop at2) (lC (all.drop at')) from ak KY.out m2 fun k => ak (g2 k) id fun k2 => dO k2)
      clear m2 g2
      have hd2 := HD.out.aB hc2 hr2
      have ht2 := hd2.bb.cell 1
      have hsz2 := hc2.size
      have hc2 : av [g] wr w2 := FI.out.trans ((av.refl _ _).drew.trans hc2)
      have hsz20 := hc2.size
      have aL := qh (HR.out.own2 bE hc2)
      have ig := qh hc2; have HR2 := qh hr2
      have hd3 := hd2.alloc (.cells ([.string x, .int .u32 s.1, .int .u32 s.2] : List Value).toArray 74)
      have ht3 := hd3.bb.cell 1
      simp only [gq1, gq2] at ht2 ht3
      have HD3 := qh hd3
      have dR := qh (az w2 74 [.string x, .int .u32 s.1, .int .u32 s.2] 3 1 rfl)
      clear hc2 hr2 hd2 hd3
      (try go_simp)
      refine hK.out _ _ trivial (fun _ => ?_)
      clear hK K
      refine wpAnyH_take (i := 5) (v := ?_) rfl (by kernel_rfl) (by kernel_rfl) (by kernel_rfl) (fun _ _ _ h => gK.out _ _ _ _ _ h) (Or.inl ⟨by rfl, ?_⟩) trivial ?_
      rotate_left
      ·intro w hSw
       go_simp <;> with_reducible rfl
      try simp only [Act.put, gq3, gq1]
      refine rdJ 1 6 (fun K hK => ?_) fun K hK => ?_
      rotate_left
      focus
       go_simp
       refine hK.out _ _ trivial (fun _ => ?_)
       clear hK K
       refine rdH 1 fun K hK => ?_
       go_simp
       refine hK.out _ _ trivial (fun _ => ?_)
       clear hK K
      rotate_left
      focus
       go_simp
       refine hK.out _ _ trivial (fun _ => ?_)
       clear hK K
       refine rdH 6 fun K hK => ?_
       go_simp
       refine hK.out _ _ trivial (fun _ => ?_)
       clear hK K
     all_goals
      refine rdH 7 fun K hK => ?_
      refine step_append_any _ (by rfl) (.tmp 49) (.tmp 54) 23 (by rfl) Wi.heap.size 74 i0 (.agg #[.string ⟨#[]⟩, .int .u32 0, .int .u32 0]) 3 24 Tryz.underlying23 hi hz0 hz1 hz2 (by rfl) (by decide) (.slice A5 k c5) k xs (by simp [Act.eval, Act.put]) (aL.out.alloc _) (w2.heap.size + 1) (some ⟨w2.heap.size, 0, none⟩) 1 1 [.string x, .int .u32 s.1, .int .u32 s.2] (by simp [Act.eval, Act.put]) dR.out (by intro u hu; simp only [List.mem_cons, List.not_mem_nil, or_false] at hu; rcases hu with rfl | rfl | rfl <;> rfl) (by unfold maxLen; omega) (by omega) (by simp; omega) ?_
      intro v' w3 ai ag bK
      obtain ⟨A7, c7, rfl, hk7, hc7⟩ := ownsRow_form ai
      have hd4 := HD3.out.grown ag (fun j hj => (aL.out.lt j hj).1) bE
      have ht4 := hd4.bb.cell 1
      have hf4 := hd4.bb.frozen 1
      simp only [gq1, gq2] at ht4
      have HN := qh (fO.next (aa _) HR.out hkn bE ig.out HR2.out rfl HG.out ai ag bK)
      clear hd4 ag bK ai hk7 hc7
      refine hK.out _ _ trivial (fun _ => ?_)
      clear hK K
      refine wpAnyH_take (i := 8) (v := ?_) rfl (by kernel_rfl) (by kernel_rfl) (by kernel_rfl) (fun _ _ _ h => gK.out _ _ _ _ _ h) (Or.inl ⟨by rfl, ?_⟩) trivial ?_
      rotate_left
      ·intro w hSw
       go_simp <;> with_reducible rfl
      try simp only [Act.put, gq3, gq1]
      refine rdH 9 fun K hK => ?_
      go_simp
      refine hK.out _ _ trivial (fun _ => ?_)
      clear hK K
      refine wpAnyH_done (by kernel_rfl) ?_ _
      clear hq ht2 ht3 ht4 hf4
      go_wp2
      go_roundw
      case rel => exact ⟨k + 1, at2, b2, l ++ [(x, s)], _, _, by go_num, HN.out⟩
      case measure => simp [Lib.intOf]; omega
  ·obtain rfl : k = n := by omega
   have HL := qh (HR.out.fin (aa _) (.inl rfl))
   clear HR HS
   go_wp2
   exact nk.out _ _ _ _ _ _ _ _ _ _ _ _ _ _ _ _ _ _ _ _ _ _ _ _ _ _ _ _ _ _ HL.out
noncomputable def rH : Code := mO Tryz.f48 2
theorem snames3 (Q0 : Exit → Act → World → Prop) (kV : ∀ c (a : Act) d v w, Q0 (.panic c) (a.put (some d) v) w → Q0 (.panic c) a w) (w Wi : World) (g n at1 bx : Nat) (all : List Nat) (b1 : Bool)
 (u0 u1 u3 u4 u5 u6 u7 c1 c2 c4 c6 c7 c8 c10 c11 c12 c13 c14 c15 c16 c17 c18 c19 c20 c21 c22 c23 c24 c25 c26 c27 c28 c29 c30 c31 c32 c33 c34 c35 c36 c37 c38 c39 c40 c41 c42 c43 c44 c45 c46 c47 c48 c49 c50 c51 c52 c53 c54 c55 c56 c57 c58 c59 c60 c61 c62 c63 c64 c65 c66 c67 c68 c69 c70 c71 c72 c73 c74 c75 c76 c77 c78 c79 c80 c81 c82 c83 c84 c85 c86 : Value)
 (hn30 : n ≤ 1073741824) (h : qz w Wi g at1 all b1 bx 33 #[u0, u1, .slice none 0 0, u3, u4, u5, u6, u7]) (bE : bx < Wi.heap.size)
 (fe : ∀ (d9 d10 d59 d60 d61 d62 d63 d64 d65 d66 d67 d68 d69 d70 d71 d72 d73 d74 d75 d76 d77 d78 d79 d80 d81 d82 d83 d84 d85 : Value) (wr : World) (at' : Nat) (b' : Bool) (l : List (Mk)) (v : Value), sQ wC 4 lX 2 w Wi wr g n at1 all b1 bx 33 #[u0, u1, .slice none 0 0, u3, u4, u5, u6, u7] at' b' l v → Q0 (.exit 4) ⟨List.toArray (af g :: c1 :: c2 :: .pointer (some ⟨bx, 0, none⟩) :: c4 :: .int .i64 (n : Nat) :: c6 :: c7 :: c8 :: d9 :: d10 :: c11 :: c12 :: c13 :: c14 :: c15 :: c16 :: c17 :: c18 :: c19 :: c20 :: c21 :: c22 :: c23 :: c24 :: c25 :: c26 :: c27 :: c28 :: c29 :: c30 :: c31 :: c32 :: c33 :: c34 :: c35 :: c36 :: c37 :: c38 :: c39 :: c40 :: c41 :: c42 :: c43 :: c44 :: c45 :: c46 :: c47 :: c48 :: c49 :: c50 :: c51 :: c52 :: c53 :: c54 :: c55 :: c56 :: c57 :: c58 :: d59 :: d60 :: d61 :: d62 :: d63 :: d64 :: d65 :: d66 :: d67 :: d68 :: d69 :: d70 :: d71 :: d72 :: d73 :: d74 :: d75 :: d76 :: d77 :: d78 :: d79 :: d80 :: d81 :: d82 :: d83 :: d84 :: d85 :: c86 :: []), []⟩ wr) :
 Code.wp Tryz.prog (.loop rH) Q0 ⟨List.toArray (af g :: c1 :: c2 :: .pointer (some ⟨bx, 0, none⟩) :: c4 :: .int .i64 (n : Nat) :: c6 :: c7 :: c8 :: .int .i64 0 :: c10 :: c11 :: c12 :: c13 :: c14 :: c15 :: c16 :: c17 :: c18 :: c19 :: c20 :: c21 :: c22 :: c23 :: c24 :: c25 :: c26 :: c27 :: c28 :: c29 :: c30 :: c31 :: c32 :: c33 :: c34 :: c35 :: c36 :: c37 :: c38 :: c39 :: c40 :: c41 :: c42 :: c43 :: c44 :: c45 :: c46 :: c47 :: c48 :: c49 :: c50 :: c51 :: c52 :: c53 :: c54 :: c55 :: c56 :: c57 :: c58 :: c59 :: c60 :: c61 :: c62 :: c63 :: c64 :: c65 :: c66 :: c67 :: c68 :: c69 :: c70 :: c71 :: c72 :: c73 :: c74 :: c75 :: c76 :: c77 :: c78 :: c79 :: c80 :: c81 :: c82 :: c83 :: c84 :: c85 :: c86 :: []), []⟩ Wi := by
 obtain ⟨i0, hi, hz0, hz1, hz2⟩ := info_parts (show (Tryz.prog.info? 76).map (fun i => (i.zero, i.size, i.bytes)) = some (some (.agg #[.string ⟨#[]⟩, .int .u32 0, .int .u32 0, .int .u32 0]), 4, 32) by kernel_rfl)
 unfold rH
 conv => arg 2; arg 1; whnf
 have HS := qh h; have nk := qh fe; have gK := qh kV
 clear h fe kV
 go_loopw [9] (fun i wr => ∃ k at' : Nat, ∃ b' : Bool, ∃ l : List (Mk), ∃ v : Value, ∃ xs : List Value, i = .int .i64 k ∧ fO wC 4 76 lX 2 w Wi wr g n at1 all b1 bx 33 #[u0, u1, .slice none 0 0, u3, u4, u5, u6, u7] k at' b' l v xs) (fun i _ => n - (Lib.intOf i).toNat)
 case atStart => exact ⟨0, at1, b1, [], _, [], rfl, fO.start HS.out (by simp) rfl⟩
 case round =>
  obtain ⟨k, at', b', l, v, xs, rfl, hR⟩ := hrel
  obtain ⟨A, c, ⟨c0, c1, c2⟩, ⟨f0, f1, f2⟩, -, -, -⟩ := hR.st.rd.cells
  have hk := hR.hj
  have hsz := hR.ch.size
  have hgw := hR.st.gw; have hgb := hR.st.hb
  have HR := qh hR
  clear hR c0 c1 f0 f1 f2
  by_cases hkn : k < n
  ·have cB : (k : Int) < n := by omega
   cases b' with
   | true =>
     have HL := qh (HR.out.fin (aa _) (.inr rfl))
     clear HR HS
     go_wp2
     exact nk.out _ _ _ _ _ _ _ _ _ _ _ _ _ _ _ _ _ _ _ _ _ _ _ _ _ _ _ _ _ _ _ _ _ _ HL.out
   | false =>
     have aj := qh (ji wr g at' all false HR.out.st.rd)
     go_wp2_with fail
     refine aj.out.mono ?_
     rintro e wa ⟨x, Fu, ba, rfl, -, qd, hra, ma, ga⟩
     have KY := qh (show eT x ba (all.drop Fu) (bg (all.drop at')) from ga rfl)
     have DZ := qd.size
     have hr3 := hra.alloc (.cells #[.string x, .int .u32 0, .int .u32 0, .int .u32 0] 76)
     have hx3 := Blk.new wa 76 #[.string x, .int .u32 0, .int .u32 0, .int .u32 0]
     have hc3 := (qd.alloc (.cells #[.string x, .int .u32 0, .int .u32 0, .int .u32 0] 76))
     obtain ⟨W3, hW3⟩ : ∃ W, wa.alloc (.cells #[.string x, .int .u32 0, .int .u32 0, .int .u32 0] 76) = W := ⟨_, rfl⟩
     rw [hW3] at hr3 hx3 hc3
     have bW := jv W3 g Fu all ba hr3
     unfold oz at bW
     have ZJ := qh hc3; have CL := qh hx3; have HW3 := qh hW3; have gV := qh bW
     clear qd hra ma ga aj c2 hr3 hx3 hc3 hW3 bW
     go_wp2_with fail
     rw [HW3.out]
     clear HW3
     refine gV.out.mono ?_
     rintro e wb ⟨c, Zd, bb, rfl, hcl32, hcb, hrb, mb, gb⟩
     dsimp only
     have Wy := hcb.size
     have hx4 := CL.out.aB hcb (by simp only [List.mem_singleton]; omega)
     have y0 := hx4.frozen 1; have x1 := hx4.cell 1
     simp only [gq2] at x1
     have hx5 := hx4.set_ 1 (.int .u32 c)
     simp only [gq1] at hx5
     have dI : av [wa.heap.size] wb (wb.setCell ⟨wa.heap.size, 1, none⟩ (.int .u32 c)) := (av.refl _ _).setCell (.inl (by simp)) _
     have hr5 := hrb.aB dI (by simp only [List.mem_singleton]; omega)
     have hc5 : av [g] wr (wb.setCell ⟨wa.heap.size, 1, none⟩ (.int .u32 c)) := (ZJ.out.trans hcb).new dI (fun i hi => .inr (by rw [List.mem_singleton.1 hi]; exact DZ))
     obtain ⟨W5, qf⟩ : ∃ W, wb.setCell ⟨wa.heap.size, 1, none⟩ (.int .u32 c) = W := ⟨_, rfl⟩
     rw [qf] at hr5 hx5 hc5
     have wJ := qh (mF W5 g Zd all bb hr5)
     have ZI := qh hc5; have yL := qh hx5; have zR := qh qf; have VS := qh (show ba = false → eT c bb (all.drop Zd) (readN (all.drop Fu)) from gb); have MB := qh mb; have H32 := qh hcl32
     clear hcl32 hcb hrb mb gb hx4 hx5 dI hr5 hc5 qf gV ZJ CL
     go_wp2_with fail
     rw [zR.out]
     clear zR y0 x1
     refine wJ.out.mono ?_
     rintro e wc ⟨s, at2, b2, rfl, -, aC, hrc, mc, gc⟩
     have BK := aC.size
     have hx6 := yL.out.aB aC (by simp only [List.mem_singleton]; omega)
     have y2 := hx6.frozen 2; have y3 := hx6.frozen 3; have x2 := hx6.cell 2; have x3 := hx6.cell 3
     simp only [gq2] at x2 x3
     have hx7 := (hx6.set_ 2 (.int .u32 s.1)).set_ 3 (.int .u32 s.2)
     simp only [gq1] at hx7
     have z0 := hx7.cell 0; have z1 := hx7.cell 1; have z2 := hx7.cell 2; have z3 := hx7.cell 3
     simp only [gq2] at z0 z1 z2 z3
     have dI : av [wa.heap.size] wc ((wc.setCell ⟨wa.heap.size, 2, none⟩ (.int .u32 s.1)).setCell ⟨wa.heap.size, 3, none⟩ (.int .u32 s.2)) := ((av.refl _ _).setCell (.inl (by simp)) _).setCell (.inl (by simp)) _
     have HR2 := qh (hrc.aB dI (by simp only [List.mem_singleton]; omega))
     have ig := qh ((ZI.out.trans aC).new dI (fun i hi => .inr (by rw [List.mem_singleton.1 hi]; exact DZ)))
     have HD2 := qh (HR.out.mid ig.out HR2.out)
     have HG := qh (show eT ⟨x, c, s⟩ b2 (all.drop at2) (lX (all.drop at')) from ak KY.out (fun k => mc (MB.out k)) fun k => ak (VS.out k) mc fun k2 => ak (gc k2) id fun k3 => dO k3)
     have es : ((wc.setCell ⟨wa.heap.size, 2, none⟩ (.int .u32 s.1)).setCell ⟨wa.heap.size, 3, none⟩ (.int .u32 s.2)).heap.size = wc.heap.size := by simp [World.setCell]
     clear aC hrc mc gc hx6 hx7 dI wJ ZI yL KY VS MB
     have aL := qh (HR.out.own2 bE ig.out)
     have hrn := az ((wc.setCell ⟨wa.heap.size, 2, none⟩ (.int .u32 s.1)).setCell ⟨wa.heap.size, 3, none⟩ (.int .u32 s.2)) 76 [.string x, .int .u32 c, .int .u32 s.1, .int .u32 s.2] 4 1 rfl
     rw [es] at hrn
     have dR := qh hrn
     clear hrn
     have hd3 := HD2.out.alloc (.cells ([.string x, .int .u32 c, .int .u32 s.1, .int .u32 s.2] : List Value).toArray 76)
     have ht2 := HD2.out.bb.cell 2
     simp only [gq1, gq2] at ht2
     have HD3 := qh hd3
     have hsz20 := ig.out.size
     clear hd3
     go_wp2_with (at_builtin; refine wpList_append_any _ rfl _ _ 24 rfl Wi.heap.size 76 i0 (.agg #[.string ⟨#[]⟩, .int .u32 0, .int .u32 0, .int .u32 0]) 4 32 Tryz.underlying24 hi hz0 hz1 hz2 rfl (by decide) _ _ _ rfl (aL.out.alloc _) _ _ _ _ [.string x, .int .u32 c, .int .u32 s.1, .int .u32 s.2] rfl dR.out (by intro u hu; simp only [List.mem_cons, List.not_mem_nil, or_false] at hu; rcases hu with rfl | rfl | rfl | rfl <;> rfl) (by unfold maxLen; omega) (by omega) (by simp; omega) ?_; intro v' w3 ai ag bK; obtain ⟨A7, c7, rfl, -, -⟩ := ownsRow_form ai; have hd4 := HD3.out.grown ag (fun j hj => (aL.out.lt j hj).1) bE; have ht4 := hd4.bb.cell 2; have hf4 := hd4.bb.frozen 2; simp only [gq1, gq2] at ht4; have HN := qh (fO.next (aa _) HR.out hkn bE ig.out HR2.out (show wC _ _ ⟨x, c, s⟩ _ from rfl) HG.out ai ag bK); clear hd4 ag bK ai)
     go_roundw
     case rel => exact ⟨k + 1, at2, b2, l ++ [⟨x, c, s⟩], _, _, by go_num, HN.out⟩
     case measure => simp [Lib.intOf]; omega
  ·obtain rfl : k = n := by omega
   have HL := qh (HR.out.fin (aa _) (.inl rfl))
   clear HR HS
   go_wp2
   exact nk.out _ _ _ _ _ _ _ _ _ _ _ _ _ _ _ _ _ _ _ _ _ _ _ _ _ _ _ _ _ _ _ _ _ _ HL.out
abbrev Ze := List ByteArray × List fw × List Mk
def ve : Rdr Ze := thenR (someR bg) fun f => thenR (someR lC) fun s => thenR (someR lX) fun m r => some ((f, s, m), r)
def KL (w : World) (S : Nat → Prop) (x : Ze) (cs : List Value) : Prop := ∃ v1 v2 v3, cs = [v1, v2, v3, .slice none 0 0, .slice none 0 0, .slice none 0 0, .slice none 0 0, .slice none 0 0] ∧ dw xm 1 w S x.1 v1 ∧ dw xn 3 w S x.2.1 v2 ∧ dw wC 4 w S x.2.2 v3
theorem CY (w : World) (g at_ : Nat) (all : List Nat) (bad : Bool) (h : RS w g all at_ bad) :
 Calls Tryz.prog 48 #[af g, .agg #[.slice none 0 0, .slice none 0 0, .slice none 0 0, .slice none 0 0, .slice none 0 0, .slice none 0 0, .slice none 0 0, .slice none 0 0]] w (wh KL fo g all bad w (ve (all.drop at_))) := by
 have hgl := h.lt
 have hs : qz w ((w.alloc (.cells #[.slice none 0 0, .slice none 0 0, .slice none 0 0, .slice none 0 0, .slice none 0 0, .slice none 0 0, .slice none 0 0, .slice none 0 0] 33)).alloc (.cells #[.slice none 0 0, .slice none 0 0, .slice none 0 0, .slice none 0 0, .slice none 0 0, .slice none 0 0, .slice none 0 0, .slice none 0 0] 33)) g at_ all bad (w.heap.size) 33 #[.slice none 0 0, .slice none 0 0, .slice none 0 0, .slice none 0 0, .slice none 0 0, .slice none 0 0, .slice none 0 0, .slice none 0 0] := ⟨((av.refl _ _).alloc _).alloc _, (h.alloc _).alloc _, (Blk.new w 33 #[.slice none 0 0, .slice none 0 0, .slice none 0 0, .slice none 0 0, .slice none 0 0, .slice none 0 0, .slice none 0 0, .slice none 0 0]).alloc _, hgl, Nat.le_refl _⟩
 have hx : Blk ((w.alloc (.cells #[.slice none 0 0, .slice none 0 0, .slice none 0 0, .slice none 0 0, .slice none 0 0, .slice none 0 0, .slice none 0 0, .slice none 0 0] 33)).alloc (.cells #[.slice none 0 0, .slice none 0 0, .slice none 0 0, .slice none 0 0, .slice none 0 0, .slice none 0 0, .slice none 0 0, .slice none 0 0] 33)) (w.heap.size + 1) 33 #[.slice none 0 0, .slice none 0 0, .slice none 0 0, .slice none 0 0, .slice none 0 0, .slice none 0 0, .slice none 0 0, .slice none 0 0] := by have := Blk.new (w.alloc (.cells #[.slice none 0 0, .slice none 0 0, .slice none 0 0, .slice none 0 0, .slice none 0 0, .slice none 0 0, .slice none 0 0, .slice none 0 0] 33)) 33 #[.slice none 0 0, .slice none 0 0, .slice none 0 0, .slice none 0 0, .slice none 0 0, .slice none 0 0, .slice none 0 0, .slice none 0 0]; rwa [World.size_alloc] at this
 have hsz0 : ((w.alloc (.cells #[.slice none 0 0, .slice none 0 0, .slice none 0 0, .slice none 0 0, .slice none 0 0, .slice none 0 0, .slice none 0 0, .slice none 0 0] 33)).alloc (.cells #[.slice none 0 0, .slice none 0 0, .slice none 0 0, .slice none 0 0, .slice none 0 0, .slice none 0 0, .slice none 0 0, .slice none 0 0] 33)).heap.size = w.heap.size + 2 := by simp [World.size_alloc]
 obtain ⟨w0, hW⟩ : ∃ W, (w.alloc (.cells #[.slice none 0 0, .slice none 0 0, .slice none 0 0, .slice none 0 0, .slice none 0 0, .slice none 0 0, .slice none 0 0, .slice none 0 0] 33)).alloc (.cells #[.slice none 0 0, .slice none 0 0, .slice none 0 0, .slice none 0 0, .slice none 0 0, .slice none 0 0, .slice none 0 0, .slice none 0 0] 33) = W := ⟨_, rfl⟩
 rw [hW] at hs hx hsz0
 have HS := qh hs; have HX := qh hx; have HW := qh hW; have HC := qh (bZ w0 g at_ all bad hs.rd)
 clear hs hx hW h
 go_enter Tryz.func48, Tryz.ntmps48
 go_wp2_with fail
 rw [HW.out]
 clear HW
 refine HC.out.mono ?_
 rintro e w1 ⟨n1, at1, b1, rfl, hn, -, hc, hr, m, gg⟩
 have zw : n1 ≤ 1073741824 := by have := hr.all; omega
 have hsz1 := hc.size
 have HS := qh (HS.out.aB hc hr)
 have HX := qh (HX.out.aB hc (by simp only [List.mem_singleton]; omega))
 have HM := qh m; have HG := qh gg
 clear hc hr m gg hn HC
 go_wp2_with fail
 refine snames1 _ (fun _ _ _ _ _ h => h) w w1 g n1 at1 (w.heap.size) all b1 _ _ _ _ _ _ _ _ _ _ _ _ _ _ _ _ _ _ _ _ _ _ _ _ _ _ _ _ _ _ _ _ _ _ _ _ _ _ _ _ _ _ _ _ _ _ _ _ _ _ _ _ _ _ _ _ _ _ _ _ _ _ _ _ _ _ _ _ _ _ _ _ _ _ _ _ _ _ _ _ _ _ _ _ _ _ _ _ _ _ zw HS.out (by omega) ?_
 intro Xx e1_13 e1_14 Tw Tv Tu Tt Tq Tp Tn Tm Tk Tj Ti Tg Tf Te Td Tc Ta w2 at2 b2 l1 v1 hE
 have hsz2 := hE.ch.size
 obtain ⟨A1, c1, rfl⟩ := hE.sl.form
 have kX := qh hE.sl
 have hs := hE.st
 simp only [gq1] at hs
 have HX := qh (HX.out.aB hE.ch (by simp; omega))
 have HS := qh hs
 have M1 := qh (hE.bad HM.out); have G1 := qh (hE.got HG.out)
 have ZM := qh hE.full
 clear hE hs
 have HC := qh (bZ w2 g at2 all b2 HS.out.rd)
 go_wp2_with fail
 refine HC.out.mono ?_
 rintro e w3 ⟨n2, at3, b3, rfl, hn, -, hc, hr, m, gg⟩
 have D9 : n2 ≤ 1073741824 := by have := hr.all; omega
 have hsz3 := hc.size
 have HS := qh (HS.out.aB hc hr)
 have HX := qh (HX.out.aB hc (by simp only [List.mem_singleton]; omega))
 have HM := qh m; have HG := qh gg
 have kX := qh (kX.out.fF (aa _) hc (by intro i hi; simp only [List.mem_singleton] at hi; omega))
 clear hc hr m gg hn HC
 go_wp2_with fail
 refine snames2 _ (fun _ _ _ _ _ h => h) w w3 g n2 at3 (w.heap.size) all b3 _ _ _ _ _ _ _ _ _ _ _ _ _ _ _ _ _ _ _ _ _ _ _ _ _ _ _ _ _ _ _ _ _ _ _ _ _ _ _ _ _ _ _ _ _ _ _ _ _ _ _ _ _ _ _ _ _ _ _ _ _ _ _ _ _ _ _ _ _ _ _ _ _ _ _ _ _ _ _ _ _ _ _ _ _ _ _ _ _ _ D9 HS.out (by omega) ?_
 intro e2_7 Xw e2_34 e2_35 e2_36 e2_37 e2_38 e2_39 e2_40 e2_41 S9 SY SX SV SS SQ SN SL SK SI SH SG SF SE SC w4 at4 b4 l2 v2 hE
 have hsz4 := hE.ch.size
 obtain ⟨A2, c2, rfl⟩ := hE.sl.form
 have kX := qh (kX.out.fF (aa _) hE.ch (by intro i hi; simp at hi; omega))
 have ql := qh hE.sl
 have hs := hE.st
 simp only [gq1] at hs
 have HX := qh (HX.out.aB hE.ch (by simp; omega))
 have HS := qh hs
 have M2 := qh (hE.bad HM.out); have G2 := qh (hE.got HG.out)
 have FU2 := qh hE.full
 clear hE hs
 have HC := qh (bZ w4 g at4 all b4 HS.out.rd)
 go_wp2_with fail
 refine HC.out.mono ?_
 rintro e w5 ⟨n3, at5, b5, rfl, hn, -, hc, hr, m, gg⟩
 have OI : n3 ≤ 1073741824 := by have := hr.all; omega
 have hsz5 := hc.size
 have HS := qh (HS.out.aB hc hr)
 have HX := qh (HX.out.aB hc (by simp only [List.mem_singleton]; omega))
 have HM := qh m; have HG := qh gg
 have kX := qh (kX.out.fF (aa _) hc (by intro i hi; simp only [List.mem_singleton] at hi; omega))
 have ql := qh (ql.out.fF (aa _) hc (by intro i hi; simp only [List.mem_singleton] at hi; omega))
 clear hc hr m gg hn HC
 go_wp2_with fail
 refine snames3 _ (fun _ _ _ _ _ h => h) w w5 g n3 at5 (w.heap.size) all b5 _ _ _ _ _ _ _ _ _ _ _ _ _ _ _ _ _ _ _ _ _ _ _ _ _ _ _ _ _ _ _ _ _ _ _ _ _ _ _ _ _ _ _ _ _ _ _ _ _ _ _ _ _ _ _ _ _ _ _ _ _ _ _ _ _ _ _ _ _ _ _ _ _ _ _ _ _ _ _ _ _ _ _ _ _ _ _ _ _ _ OI HS.out (by omega) ?_
 intro Xv SB e3_59 e3_60 SA Sz Sy Sw Sv Su Sr Sn Sm Sl Sk Sj Si Sg Sd Sc Sb Sa R9 R8 R7 R6 R5 R4 R3 w6 at6 b6 l3 v3 hE
 have hsz6 := hE.ch.size
 obtain ⟨A3, c3, rfl⟩ := hE.sl.form
 have kX := qh (kX.out.fF (aa _) hE.ch (by intro i hi; simp at hi; omega))
 have ql := qh (ql.out.fF (aa _) hE.ch (by intro i hi; simp at hi; omega))
 have zD := qh hE.sl
 have hs := hE.st
 simp only [gq1] at hs
 have HX := qh (HX.out.aB hE.ch (by simp; omega))
 have HS := qh hs
 have M3 := qh (hE.bad HM.out); have G3 := qh (hE.got HG.out)
 have FU3 := qh hE.full
 clear hE hs
 have aC : av [w.heap.size + 1] w6 ((((((((w6.setCell ⟨w.heap.size + 1, 0, none⟩ (.slice A1 l1.length c1)).setCell ⟨w.heap.size + 1, 1, none⟩ (.slice A2 l2.length c2)).setCell ⟨w.heap.size + 1, 2, none⟩ (.slice A3 l3.length c3)).setCell ⟨w.heap.size + 1, 3, none⟩ (.slice none 0 0)).setCell ⟨w.heap.size + 1, 4, none⟩ (.slice none 0 0)).setCell ⟨w.heap.size + 1, 5, none⟩ (.slice none 0 0)).setCell ⟨w.heap.size + 1, 6, none⟩ (.slice none 0 0)).setCell ⟨w.heap.size + 1, 7, none⟩ (.slice none 0 0)) := (((((((((av.refl [w.heap.size + 1] w6).setCell (p := ⟨w.heap.size + 1, 0, none⟩) (.inl (by simp)) (.slice A1 l1.length c1)).setCell (p := ⟨w.heap.size + 1, 1, none⟩) (.inl (by simp)) (.slice A2 l2.length c2)).setCell (p := ⟨w.heap.size + 1, 2, none⟩) (.inl (by simp)) (.slice A3 l3.length c3)).setCell (p := ⟨w.heap.size + 1, 3, none⟩) (.inl (by simp)) (.slice none 0 0)).setCell (p := ⟨w.heap.size + 1, 4, none⟩) (.inl (by simp)) (.slice none 0 0)).setCell (p := ⟨w.heap.size + 1, 5, none⟩) (.inl (by simp)) (.slice none 0 0)).setCell (p := ⟨w.heap.size + 1, 6, none⟩) (.inl (by simp)) (.slice none 0 0)).setCell (p := ⟨w.heap.size + 1, 7, none⟩) (.inl (by simp)) (.slice none 0 0))
 have hsl0 := dw.pQ (aa _) (kX.out.fF (aa _) aC (by intro i hi; simp only [List.mem_singleton] at hi; omega)) (show w.heap.size ≤ _ by omega)
 have hsl1 := dw.pQ (aa _) (ql.out.fF (aa _) aC (by intro i hi; simp only [List.mem_singleton] at hi; omega)) (show w.heap.size ≤ _ by omega)
 have hsl2 := dw.pQ (aa _) (zD.out.fF (aa _) aC (by intro i hi; simp only [List.mem_singleton] at hi; omega)) (show w.heap.size ≤ _ by omega)
 have hf := ((((((((HX.out.set_ 0 (.slice A1 l1.length c1)).set_ 1 (.slice A2 l2.length c2)).set_ 2 (.slice A3 l3.length c3)).set_ 3 (.slice none 0 0)).set_ 4 (.slice none 0 0)).set_ 5 (.slice none 0 0)).set_ 6 (.slice none 0 0)).set_ 7 (.slice none 0 0))
 simp only [gq1] at hf
 have ay : wh KL fo g all bad w (ve (all.drop at_)) (.returned (fo [.slice A1 l1.length c1, .slice A2 l2.length c2, .slice A3 l3.length c3, .slice none 0 0, .slice none 0 0, .slice none 0 0, .slice none 0 0, .slice none 0 0])) ((((((((w6.setCell ⟨w.heap.size + 1, 0, none⟩ (.slice A1 l1.length c1)).setCell ⟨w.heap.size + 1, 1, none⟩ (.slice A2 l2.length c2)).setCell ⟨w.heap.size + 1, 2, none⟩ (.slice A3 l3.length c3)).setCell ⟨w.heap.size + 1, 3, none⟩ (.slice none 0 0)).setCell ⟨w.heap.size + 1, 4, none⟩ (.slice none 0 0)).setCell ⟨w.heap.size + 1, 5, none⟩ (.slice none 0 0)).setCell ⟨w.heap.size + 1, 6, none⟩ (.slice none 0 0)).setCell ⟨w.heap.size + 1, 7, none⟩ (.slice none 0 0)) :=
  ⟨(l1, l2, l3), _, at6, b6, rfl, ⟨_, _, _, rfl, hsl0, hsl1, hsl2⟩, HS.out.ch.new aC (fun i hi => .inr (by rw [List.mem_singleton.1 hi]; omega)), HS.out.rd.aB aC (fun i hi => by rw [List.mem_singleton.1 hi]; omega), fun hb => M3.out (M2.out (M1.out hb)), fun hb => ak (G1.out hb) (fun k => M3.out (M2.out k)) fun k => ak (G2.out k) M3.out fun k2 => ak (G3.out k2) id fun k3 => dO k3⟩
 have g0 := HS.out.bb.cell 0; have z0 := HX.out.cell 0; have k0 := HX.out.frozen 0; have d0 := hf.cell 0
 have g1 := HS.out.bb.cell 1; have z1 := HX.out.cell 1; have k1 := HX.out.frozen 1; have d1 := hf.cell 1
 have g2 := HS.out.bb.cell 2; have z2 := HX.out.cell 2; have k2 := HX.out.frozen 2; have d2 := hf.cell 2
 have g3 := HS.out.bb.cell 3; have z3 := HX.out.cell 3; have k3 := HX.out.frozen 3; have d3 := hf.cell 3
 have g4 := HS.out.bb.cell 4; have z4 := HX.out.cell 4; have k4 := HX.out.frozen 4; have d4 := hf.cell 4
 have g5 := HS.out.bb.cell 5; have z5 := HX.out.cell 5; have k5 := HX.out.frozen 5; have d5 := hf.cell 5
 have g6 := HS.out.bb.cell 6; have z6 := HX.out.cell 6; have k6 := HX.out.frozen 6; have d6 := hf.cell 6
 have g7 := HS.out.bb.cell 7; have z7 := HX.out.cell 7; have k7 := HX.out.frozen 7; have d7 := hf.cell 7
 simp only [gq2] at g0 z0 d0 g1 z1 d1 g2 z2 d2 g3 z3 d3 g4 z4 d4 g5 z5 d5 g6 z6 d6 g7 z7 d7
 have D0 := qh d0
 have D1 := qh d1
 have D2 := qh d2
 have D3 := qh d3
 have D4 := qh d4
 have D5 := qh d5
 have D6 := qh d6
 have D7 := qh d7
 have aD := qh ay
 clear aC hf ay hsl0 hsl1 hsl2 d0 d1 d2 d3 d4 d5 d6 d7 HS HX
 go_wp2
 exact bodyPost_ret (by simp [results, Tryz.results48, go_sem, D0.out, D1.out, D2.out, D3.out, D4.out, D5.out, D6.out, D7.out]) rfl aD.out
end Go.Proofs.YtmepaeahchiglaaGreatDoor
