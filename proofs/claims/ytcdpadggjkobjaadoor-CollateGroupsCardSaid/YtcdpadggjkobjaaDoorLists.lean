/-
  CollateLists of layer 39, walked. Conditions: the cell of the library's MaxLen holds some int; arguments of the reach.
-/
import Derived.Test.YtcdpadggjkobjaaDoorHeads
import Derived.Test.YtcdpadggjkobjaaDoorRefSort
import Derived.Test.YtcdpadggjkobjaaDoorNews
namespace Go.Proofs.YtcdpadggjkobjaaDoor
open Go.RowKit Go.Lib

theorem Reads.go {w w' : World} {size n : Nat} {A : Option Addr} {xs : List Value} (h : Reads w w.heap.size size A n xs) (hb : Below w.heap.size w w') : Reads w' w'.heap.size size A n xs := (h.below hb).more hb.size
theorem ReadS.go {w w' : World} {n : Nat} {A : Option Addr} {xs : List ByteArray} (h : ReadS w w.heap.size A n xs) (hb : Below w.heap.size w w') : ReadS w' w'.heap.size A n xs := Reads.go h hb
theorem ReadI.go {w w' : World} {n : Nat} {A : Option Addr} {xs : List Int} (h : ReadI w w.heap.size A n xs) (hb : Below w.heap.size w w') : ReadI w' w'.heap.size A n xs := Reads.go h hb
theorem Below.go {B : Nat} {a w w' : World} (h : Below B a w) (hB : B ≤ a.heap.size) (hb : Below w.heap.size w w') : Below B a w' := h.trans (hb.mono (Nat.le_trans hB h.size))
theorem TextsPost.reads {w w' : World} {r : Int × List ByteArray} {e : Ending} (h : TextsPost w r e w') :
    ∃ A n c, e = .returned (.tuple #[.slice A n c, .int .i64 r.1]) ∧ ReadS w' w'.heap.size A n r.2 ∧ n ≤ maxLen ∧ Below w.heap.size w w' := by
  obtain ⟨A, n, c, rfl, ho, _, h1, h2, hb⟩ := h.form
  exact ⟨A, n, c, rfl, Reads.of_own ho, by omega, hb⟩
theorem HeadsPost.reads {w w' : World} {r : Int × List ByteArray × List Int} {e : Ending} (h : HeadsPost w r e w') :
    ∃ A n c B m d, e = .returned (.tuple #[.slice A n c, .slice B m d, .int .i64 r.1]) ∧ ReadS w' w'.heap.size A n r.2.1 ∧ n ≤ maxLen ∧ ReadI w' w'.heap.size B m r.2.2 ∧ m ≤ maxLen ∧ Below w.heap.size w w' := by
  obtain ⟨A, n, c, B, m, d, rfl, ho, _, h1, h2, ho', _, h3, h4, hb⟩ := h.form
  exact ⟨A, n, c, B, m, d, rfl, Reads.of_own ho, by omega, Reads.of_own ho', by omega, hb⟩
set_option maxRecDepth 100000 in
set_option maxHeartbeats 4000000 in
theorem lists_any (A A2 : Option Addr) (n c n2 c2 : Nat) (ss ls : List ByteArray) (s t : ByteArray) (w : World) (hm : MaxOk w) (hr : ReadS w w.heap.size A n ss) (hs : ∀ s ∈ ss, okS s) (hn : n ≤ maxLen)
    (hr2 : ReadS w w.heap.size A2 n2 ls) (hs2 : ∀ s ∈ ls, okS s) (hn2 : n2 ≤ maxLen) (hsl : s.size ≤ maxLen) (htl : t.size ≤ maxLen) :
    Calls Tryd.prog 9 #[.slice A n c, .slice A2 n2 c2, .string s, .string t] w (WorksPost w) := by
  have hf := few_any A n c ss 300 3000 w _ hr hs hn (by omega)
  have hf2 := few_any A2 n2 c2 ls 300 4000 w _ hr2 hs2 hn2 (by omega)
  have hsl' := hsl; have htl' := htl
  unfold maxLen at hsl' htl'
  by_cases hF : (fewB ss 300 3000 = true ∧ fewB ls 300 4000 = true) ∧ s.size ≤ 300 ∧ t.size ≤ 300
  · obtain ⟨⟨h1, h2⟩, hs300, ht300⟩ := hF
    have h3 := fewB_yes h1
    have hL := hr.len
    have h4 := fewB_yes h2
    have hL2 := hr2.len
    have hlsz : ∀ x ∈ ls, x.size ≤ maxLen := fun x hx => by have := totalS_mem hx; unfold maxLen; omega
    have hb := both_any A n c ss w hm hr (by omega) (by omega)
    have hG := groupsO_small (ss := ss) (by omega) (by omega)
    rw [h1] at hf
    rw [h2] at hf2
    have kw := fun W (hb : Below w.heap.size w W) => works_any W (hm.below hb)
    have kso := fun p A n c W (h : AlphO W p (groupsO ss)) hr hn => sort_any p (groupsO ss) A n c ls W h hr hn
    have khd := fun p A n c W (h : AlphO W p (groupsO ss)) hr hn => headsO_any p (groupsO ss) A n c ls W h hr hn
    have kbt := fun p A n c W (h : AlphO W p (groupsO ss)) hr hn => between_any p (groupsO ss) A n c ls s t W h hr hn
    have rso := fun p A n c W (h : RefO W p (groupsO ss)) hr hn => refSortO_any p (groupsO ss) A n c ls W h hG hr hn hlsz
    have rhd := fun p A n c W (h : RefO W p (groupsO ss)) hr hn => refHeadsO_any p (groupsO ss) A n c ls W h hG hr hn hlsz
    have rbt := fun p A n c W (h : RefO W p (groupsO ss)) hr hn => refBetO_any p (groupsO ss) A n c ls s t W h hG hr hn hlsz hsl htl
    have kcl := fun W hr => cloneS_any A2 n2 c2 ls W W.heap.size hr (Nat.le_refl _) (by omega)
    generalize betwRes (sortResO (groupsO ss) ls) (readResO (groupsO ss) s) (readResO (groupsO ss) t) s t = r3 at kbt rbt
    generalize sortedT (sortResO (groupsO ss) ls) = r1 at kso rso
    generalize headsResO (groupsO ss) ls = r2 at khd rhd
    unfold BothPost at hb
    generalize groupsO ss = og at *
    have KW := Lib.hid kw; have KSO := Lib.hid kso; have KHD := Lib.hid khd; have KBT := Lib.hid kbt; have RSO := Lib.hid rso; have RHD := Lib.hid rhd; have RBT := Lib.hid rbt; have KCL := Lib.hid kcl
    clear kw kso khd kbt rso rhd rbt kcl hG hL hL2 h1 h2 h3 h4 hm hr hs hn hs2 hlsz hsl htl
    go_enter Tryd.func9, Tryd.ntmps9
    go_wp2_with fail
    refine hf.mono ?_
    rintro e w' ⟨rfl, rfl⟩
    go_wp2_with fail
    refine hf2.mono ?_
    rintro e w' ⟨rfl, rfl⟩
    go_wp2_with fail
    refine hb.mono ?_
    rintro e w1 ⟨p, q, rfl, hA, hR, hb1⟩
    have HB1 := hb1
    have hl1 := hr2.go hb1
    have HA := Lib.hid hA; have HR := Lib.hid hR; clear hA hR hb hf hf2 hr2 hb1
    go_wp2_with fail
    refine (KCL.out w1 hl1).mono ?_
    rintro e w2 hp
    obtain ⟨A3, n3, c3, rfl, hx, hn3, hb2⟩ := hp.form
    have hl2 := hl1.go hb2
    have HB2 := Below.go HB1 (Nat.le_refl _) hb2
    have HA2 := Lib.hid (HA.out.below hb2); have HR2 := Lib.hid (HR.out.below hb2)
    clear hp hl1 HB1 HA HR hb2 KCL
    go_wp2_with fail
    refine (KSO.out p A2 n2 c2 w2 HA2.out hl2 hn2).mono ?_
    rintro e w3 hp
    obtain ⟨A4, n4, c4, rfl, hy, hn4, hb3⟩ := hp.reads
    have hl3 := hl2.go hb3; have hx3 := hx.go hb3
    have HB3 := Below.go HB2 (Nat.le_refl _) hb3
    have HA3 := Lib.hid (HA2.out.below hb3); have HR3 := Lib.hid (HR2.out.below hb3)
    clear hp hl2 hx HB2 HA2 HR2 hb3 KSO
    go_wp2_with fail
    refine (RSO.out q A3 n3 c3 w3 HR3.out hx3 hn3).mono ?_
    rintro e w4 hp
    obtain ⟨A5, n5, c5, rfl, hz, hn5, hb4⟩ := hp.reads
    have hl4 := hl3.go hb4; have hx4 := hx3.go hb4; have hy4 := hy.go hb4
    have HB4 := Below.go HB3 (Nat.le_refl _) hb4
    have HA4 := Lib.hid (HA3.out.below hb4); have HR4 := Lib.hid (HR3.out.below hb4)
    clear hp hl3 hx3 hy HB3 HA3 HR3 hb4 RSO
    go_wp2_with fail
    refine (KHD.out p A2 n2 c2 w4 HA4.out hl4 hn2).mono ?_
    rintro e w5 hp
    obtain ⟨A6, n6, c6, A7, n7, c7, rfl, hu, hn6, hv, hn7, hb5⟩ := hp.reads
    have hl5 := hl4.go hb5; have hx5 := hx4.go hb5; have hy5 := hy4.go hb5; have hz5 := hz.go hb5
    have HB5 := Below.go HB4 (Nat.le_refl _) hb5
    have HA5 := Lib.hid (HA4.out.below hb5); have HR5 := Lib.hid (HR4.out.below hb5)
    clear hp hl4 hx4 hy4 hz HB4 HA4 HR4 hb5 KHD
    go_wp2_with fail
    refine (RHD.out q A3 n3 c3 w5 HR5.out hx5 hn3).mono ?_
    rintro e w6 hp
    obtain ⟨A8, n8, c8, A9, n9, c9, rfl, hu', hn8, hv', hn9, hb6⟩ := hp.reads
    have hl6 := hl5.go hb6; have hx6 := hx5.go hb6; have hy6 := hy5.go hb6; have hz6 := hz5.go hb6; have hu6 := hu.go hb6; have hv6 := hv.go hb6
    have HB6 := Below.go HB5 (Nat.le_refl _) hb6
    have HA6 := Lib.hid (HA5.out.below hb6); have HR6 := Lib.hid (HR5.out.below hb6)
    clear hp hl5 hx5 hy5 hz5 hu hv HB5 HA5 HR5 hb6 RHD
    go_wp2_with fail
    refine (KBT.out p A2 n2 c2 w6 HA6.out hl6 hn2).mono ?_
    rintro e w7 hp
    obtain ⟨B1, m1, d1, rfl, hbt, hm1, hb7⟩ := hp.reads
    have hl7 := hl6.go hb7; have hx7 := hx6.go hb7; have hy7 := hy6.go hb7; have hz7 := hz6.go hb7; have hu7 := hu6.go hb7; have hv7 := hv6.go hb7; have hu7' := hu'.go hb7; have hv7' := hv'.go hb7
    have HB7 := Below.go HB6 (Nat.le_refl _) hb7
    have HR7 := Lib.hid (HR6.out.below hb7)
    clear hp hl6 hx6 hy6 hz6 hu6 hv6 hu' hv' HB6 HA6 HR6 hb7 KBT
    go_wp2_with fail
    refine (RBT.out q A3 n3 c3 w7 HR7.out hx7 hn3).mono ?_
    rintro e w8 hp
    obtain ⟨B2, m2, d2, rfl, hbt', hm2, hb8⟩ := hp.reads
    have hl8 := hl7.go hb8; have hx8 := hx7.go hb8; have hy8 := hy7.go hb8; have hz8 := hz7.go hb8; have hu8 := hu7.go hb8; have hv8 := hv7.go hb8; have hu8' := hu7'.go hb8; have hv8' := hv7'.go hb8; have hbt8 := hbt.go hb8
    have HB8 := Below.go HB7 (Nat.le_refl _) hb8
    clear hp hl7 hx7 hy7 hz7 hu7 hv7 hu7' hv7' hbt HB7 HR7 hb8 RBT
    go_wp2_with fail
    refine (equalS_refl A4 A5 n4 n5 c4 c5 _ _ _ _ hy8 hz8 hn4).mono ?_
    rintro e w9 ⟨rfl, q1, rfl⟩
    go_wp2_with fail
    refine (equalS_refl A6 A8 n6 n8 c6 c8 _ _ _ _ (Reads.drewN hu8 q1) (Reads.drewN hu8' q1) hn6).mono ?_
    rintro e w10 ⟨rfl, q2, rfl⟩
    rw [World.drewN_drewN]
    generalize q1 + q2 = q3
    go_wp2_with fail
    refine (equalI_refl A7 A9 n7 n9 c7 c9 _ _ _ _ (Reads.drewN hv8 q3) (Reads.drewN hv8' q3) hn7).mono ?_
    rintro e w11 ⟨rfl, q4, rfl⟩
    rw [World.drewN_drewN]
    generalize q3 + q4 = q5
    go_wp2_with fail
    refine (equalS_refl B1 B2 m1 m2 d1 d2 _ _ _ _ (Reads.drewN hbt8 q5) (Reads.drewN hbt' q5) hm1).mono ?_
    rintro e w12 ⟨rfl, q6, rfl⟩
    rw [World.drewN_drewN]
    generalize q5 + q6 = q7
    go_wp2_with fail
    refine (equalS_refl A2 A3 n2 n3 c2 c3 _ _ _ _ (Reads.drewN hl8 q7) (Reads.drewN hx8 q7) hn2).mono ?_
    rintro e w13 ⟨rfl, q8, rfl⟩
    rw [World.drewN_drewN]
    generalize q7 + q8 = q9
    have hB9 := below_drewN HB8 q9
    go_wp2_with fail
    refine (KW.out _ hB9).mono ?_
    rintro e w14 ⟨rfl, hb14⟩
    go_wp2
    go_ret
    exact ⟨rfl, hB9.trans (hb14.mono hB9.size)⟩
  · have kw := works_any w hm
    clear hm hr hs hn hr2 hs2 hn2 hsl htl
    by_cases h1 : fewB ss 300 3000 = true
    · rw [h1] at hf
      by_cases h2 : fewB ls 300 4000 = true
      · rw [h2] at hf2
        have h3 : 300 < s.size ∨ (s.size ≤ 300 ∧ 300 < t.size) := by
          rcases Nat.lt_or_ge 300 s.size with h | h
          · exact .inl h
          · rcases Nat.lt_or_ge 300 t.size with h' | h'
            · exact .inr ⟨h, h'⟩
            · exact absurd ⟨⟨h1, h2⟩, h, h'⟩ hF
        clear h1 h2 hF
        rcases h3 with h3 | ⟨h3, h4⟩
        all_goals
          go_enter Tryd.func9, Tryd.ntmps9
          go_wp2_with fail
          refine hf.mono ?_
          rintro e w' ⟨rfl, rfl⟩
          go_wp2_with fail
          refine hf2.mono ?_
          rintro e w' ⟨rfl, rfl⟩
          go_wp2_with fail
          refine kw.mono ?_
          rintro e w8 ⟨rfl, hb8⟩
          go_wp2
          go_ret
          exact ⟨rfl, hb8⟩
      · rw [Bool.not_eq_true] at h2
        rw [h2] at hf2
        clear h1 h2 hF
        go_enter Tryd.func9, Tryd.ntmps9
        go_wp2_with fail
        refine hf.mono ?_
        rintro e w' ⟨rfl, rfl⟩
        go_wp2_with fail
        refine hf2.mono ?_
        rintro e w' ⟨rfl, rfl⟩
        go_wp2_with fail
        refine kw.mono ?_
        rintro e w8 ⟨rfl, hb8⟩
        go_wp2
        go_ret
        exact ⟨rfl, hb8⟩
    · rw [Bool.not_eq_true] at h1
      rw [h1] at hf
      clear h1 hF hf2
      go_enter Tryd.func9, Tryd.ntmps9
      go_wp2_with fail
      refine hf.mono ?_
      rintro e w' ⟨rfl, rfl⟩
      go_wp2_with fail
      refine kw.mono ?_
      rintro e w8 ⟨rfl, hb8⟩
      go_wp2
      go_ret
      exact ⟨rfl, hb8⟩
end Go.Proofs.YtcdpadggjkobjaaDoor
