/-
  CollateChains of layer 39, walked. Conditions: the cell of the library's MaxLen holds some int; arguments of the reach.
-/
import Derived.Test.YtcdpadggjkobjaaDoorChains
namespace Go.Proofs.YtcdpadggjkobjaaDoor
open Go.RowKit Go.Lib

set_option maxRecDepth 100000 in
set_option maxHeartbeats 8000000 in
theorem chains_any (A : Option Addr) (n c : Nat) (ss : List ByteArray) (B1 B2 B3 : Option Addr) (n1 c1 n2 c2 n3 c3 : Nat) (xs1 xs2 xs3 : List UInt8) (w : World) (hm : MaxOk w) (hr : ReadS w w.heap.size A n ss) (hs : ∀ s ∈ ss, okS s) (hnc : n ≤ c) (hc : c ≤ maxLen)
    (hr1 : ReadB w w.heap.size B1 n1 xs1) (hn1 : n1 ≤ c1) (hc1 : c1 ≤ maxLen) (hr2 : ReadB w w.heap.size B2 n2 xs2) (hn2 : n2 ≤ c2) (hc2 : c2 ≤ maxLen) (hr3 : ReadB w w.heap.size B3 n3 xs3) (hn3 : n3 ≤ c3) (hc3 : c3 ≤ maxLen) :
    Calls Tryd.prog 8 #[.slice A n c, .slice B1 n1 c1, .slice B2 n2 c2, .slice B3 n3 c3] w (WorksPost w) := by
  have hf := few_any A n c ss 300 3000 w _ hr hs (by omega) (by omega)
  by_cases h1 : fewB ss 300 3000 = true
  · have h3 := fewB_yes h1
    have hL := hr.len
    rw [h1] at hf
    have hmk := madeF_any A n c ss w hm hr (by omega) hnc hc (by omega)
    have kw := fun W (hb : Below w.heap.size w W) => works_any W (hm.below hb)
    have KW := Lib.hid kw; have HR1 := Lib.hid hr1; have HR2 := Lib.hid hr2; have HR3 := Lib.hid hr3
    clear kw hL h3 h1 hm hr hs hnc hc hr1 hr2 hr3
    go_enter Tryd.func8, Tryd.ntmps8
    go_wp2_with fail
    refine hf.mono ?_
    rintro e w' ⟨rfl, rfl⟩
    go_wp2_with fail
    refine hmk.mono ?_
    rintro e w1 ⟨g, ls, rfl, hA, hG, herr, hl60, hl3000, hb1⟩
    have hA1 : AlphO w1 (some ⟨g, 0, none⟩) (some (groupsB ls)) := ⟨g, rfl, hA, hG⟩
    have hfl : (groupsB ls).flatten.length ≤ 16384 := by
      have := totalP_le ls
      unfold totalP at this
      omega
    have h8 : ∀ x ∈ (groupsB ls).flatten, x.size ≤ 8 := fun x hx => by
      rw [← ents_fst] at hx
      obtain ⟨e, he, rfl⟩ := List.mem_map.1 hx
      exact (hG.size he).2
    have HA1 := Lib.hid hA1; have HFL := Lib.hid hfl; have H8 := Lib.hid h8; have HG := Lib.hid hG
    clear hmk hf hA hG herr hl60 hl3000 hA1 hfl h8
    generalize groupsB ls = gs at HA1 HFL H8 HG
    go_wp2_with fail
    refine (written_any _ _ B1 n1 c1 xs1 w1 HA1.out HFL.out H8.out ((HR1.out.below hb1).more hb1.size) hn1 hc1).mono ?_
    rintro e w2 ⟨s, rfl, hs480, hb2⟩
    have hb02 := hb1.trans (hb2.mono hb1.size)
    go_wp2_with fail
    refine (written_any _ _ B2 n2 c2 xs2 w2 (HA1.out.below hb2) HFL.out H8.out ((HR2.out.below hb02).more hb02.size) hn2 hc2).mono ?_
    rintro e w3 ⟨t, rfl, ht480, hb3⟩
    have hb03 := hb02.trans (hb3.mono hb02.size)
    go_wp2_with fail
    refine (written_any _ _ B3 n3 c3 xs3 w3 ((HA1.out.below hb2).below hb3) HFL.out H8.out ((HR3.out.below hb03).more hb03.size) hn3 hc3).mono ?_
    rintro e w4 ⟨u, rfl, hu480, hb4⟩
    have hb04 := hb03.trans (hb4.mono hb03.size)
    have hA4 := ((HA1.out.below hb2).below hb3).below hb4
    have HA4 := Lib.hid hA4
    clear HR1 HR2 HR3 H8 HA1 hb1 hb2 hb3 hb4 hb02 hb03 hA4 hn1 hn2 hn3 hc1 hc2 hc3
    have hch1 := chain1 gs (s := s) (t := t) (by omega) (by omega)
    have hch2 := chain2 gs (s := s) (t := t) (u := u) (by omega) (by omega) (by omega)
    have hO := fun (a b : ByteArray) W (h : Below w4.heap.size w4 W) => order_any (some ⟨g, 0, none⟩) (some gs) a b W (HA4.out.below h)
    have hK := fun (a : ByteArray) W (h : Below w4.heap.size w4 W) => keyO_any (some ⟨g, 0, none⟩) (some gs) a W (HA4.out.below h)
    have hS := fun (a b : ByteArray) W (h : Below w4.heap.size w4 W) => same_any (some ⟨g, 0, none⟩) (some gs) a b W (HA4.out.below h)
    have hP := fun (a : ByteArray) W (h : Below w4.heap.size w4 W) => splitO_any (some ⟨g, 0, none⟩) (some gs) a W (HA4.out.below h)
    have HO := Lib.hid hO; have HK := Lib.hid hK; have HS := Lib.hid hS; have HP := Lib.hid hP
    clear hO hK hS hP
    have o1 : ∀ W, Below w4.heap.size w4 W → Calls Tryd.prog 22 #[.pointer (some ⟨g, 0, none⟩), .string s, .string t] W (OrderPost W (orderRes (readRes gs s) (readRes gs t) s t)) := fun W h => HO.out s t W h
    have o2 : ∀ W, Below w4.heap.size w4 W → Calls Tryd.prog 22 #[.pointer (some ⟨g, 0, none⟩), .string t, .string s] W (OrderPost W (orderRes (readRes gs t) (readRes gs s) t s)) := fun W h => HO.out t s W h
    have o3 : ∀ W, Below w4.heap.size w4 W → Calls Tryd.prog 22 #[.pointer (some ⟨g, 0, none⟩), .string t, .string u] W (OrderPost W (orderRes (readRes gs t) (readRes gs u) t u)) := fun W h => HO.out t u W h
    have o4 : ∀ W, Below w4.heap.size w4 W → Calls Tryd.prog 22 #[.pointer (some ⟨g, 0, none⟩), .string s, .string u] W (OrderPost W (orderRes (readRes gs s) (readRes gs u) s u)) := fun W h => HO.out s u W h
    have s1 : ∀ W, Below w4.heap.size w4 W → Calls Tryd.prog 24 #[.pointer (some ⟨g, 0, none⟩), .string s, .string t] W (SamePost W (sameRes (readRes gs s) (readRes gs t))) := fun W h => HS.out s t W h
    have s2 : ∀ W, Below w4.heap.size w4 W → Calls Tryd.prog 24 #[.pointer (some ⟨g, 0, none⟩), .string t, .string s] W (SamePost W (sameRes (readRes gs t) (readRes gs s))) := fun W h => HS.out t s W h
    have s3 : ∀ W, Below w4.heap.size w4 W → Calls Tryd.prog 24 #[.pointer (some ⟨g, 0, none⟩), .string s, .string s] W (SamePost W (sameRes (readRes gs s) (readRes gs s))) := fun W h => HS.out s s W h
    have q1 : ∀ W, Below w4.heap.size w4 W → ∀ e W', KeyPost W (readRes gs s) e W' → ∃ v, e = .returned (.tuple #[v, .int .i64 (readRes gs s).1]) ∧ Below W.heap.size W W' := fun W _ e W' h => by
      obtain ⟨v, he, _, hb⟩ := h; exact ⟨v, he, hb⟩
    have q2 : ∀ W, Below w4.heap.size w4 W → ∀ e W', KeyPost W (readRes gs t) e W' → ∃ v, e = .returned (.tuple #[v, .int .i64 (readRes gs t).1]) ∧ Below W.heap.size W W' := fun W _ e W' h => by
      obtain ⟨v, he, _, hb⟩ := h; exact ⟨v, he, hb⟩
    have k1 : ∀ W, Below w4.heap.size w4 W → Calls Tryd.prog 18 #[.pointer (some ⟨g, 0, none⟩), .string s] W fun e W' => ∃ v, e = .returned (.tuple #[v, .int .i64 (readRes gs s).1]) ∧ Below W.heap.size W W' := fun W h => (HK.out s W h).mono (q1 W h)
    have k2 : ∀ W, Below w4.heap.size w4 W → Calls Tryd.prog 18 #[.pointer (some ⟨g, 0, none⟩), .string t] W fun e W' => ∃ v, e = .returned (.tuple #[v, .int .i64 (readRes gs t).1]) ∧ Below W.heap.size W W' := fun W h => (HK.out t W h).mono (q2 W h)
    clear q1 q2 HS HK
    have hcs := readRes_cases gs (s := s) (by omega)
    generalize orderRes (readRes gs s) (readRes gs t) s t = v1 at o1 hch1 hch2
    generalize orderRes (readRes gs t) (readRes gs s) t s = v2 at o2 hch1
    generalize orderRes (readRes gs t) (readRes gs u) t u = v3 at o3 hch2
    generalize orderRes (readRes gs s) (readRes gs u) s u = v4 at o4 hch2
    generalize sameRes (readRes gs s) (readRes gs t) = sm1 at s1 hch1
    generalize sameRes (readRes gs t) (readRes gs s) = sm2 at s2 hch1
    generalize sameRes (readRes gs s) (readRes gs s) = sm3 at s3 hch1
    generalize (readRes gs s).1 = good at k1 hch1
    generalize (readRes gs t).1 = fine at k2 hch1
    obtain ⟨x, e1⟩ := v1; obtain ⟨y, f1⟩ := v2; obtain ⟨z, g1⟩ := v3; obtain ⟨v, h1⟩ := v4
    have O1 := Lib.hid o1; have O2 := Lib.hid o2; have O3 := Lib.hid o3; have O4 := Lib.hid o4
    have S1 := Lib.hid s1; have S2 := Lib.hid s2; have S3 := Lib.hid s3; have K1 := Lib.hid k1; have K2 := Lib.hid k2
    have HC1 := Lib.hid hch1; have HC2 := Lib.hid hch2; have HCS := Lib.hid hcs
    clear o1 o2 o3 o4 s1 s2 s3 k1 k2 hch1 hch2 hcs
    go_wp2_with fail
    refine (O1.out _ (Below.refl _ _)).mono ?_
    rintro e w5 ⟨rfl, hb5⟩
    go_wp2_with fail
    refine (O2.out _ hb5).mono ?_
    rintro e w6 ⟨rfl, hb6⟩
    have hb46 := hb5.trans (hb6.mono hb5.size)
    go_wp2_with fail
    refine (K1.out _ hb46).mono ?_
    rintro e w7 ⟨kv1, rfl, hb7⟩
    have hb47 := hb46.trans (hb7.mono hb46.size)
    go_wp2_with fail
    refine (K2.out _ hb47).mono ?_
    rintro e w8 ⟨kv2, rfl, hb8⟩
    have hb48 := hb47.trans (hb8.mono hb47.size)
    clear hb5 hb6 hb46 hb7 hb47 hb8 O1 O2 K1 K2
    go_upto_region 11 with fail
    go_cut [128] (fun s8 wx => s8 = .bool false ∧ Below w4.heap.size w4 wx)
    case first =>
      have hch1 := HC1.out
      clear HC1 HC2 HCS O3 O4 HP HFL HG
      have hch := chain1_more hch1
      clear hch1
      rcases hch with ⟨rfl, rfl, rfl, rfl, rfl, hx1, hx2, hb, rfl, rfl⟩ | ⟨rfl, rfl, rfl, rfl, rfl, hx⟩
      · as_aux_lemma =>
          go_wp2_with fail
          refine (S1.out _ hb48).mono ?_
          rintro e w9 ⟨rfl, hb9⟩
          have hb49 := hb48.trans (hb9.mono hb48.size)
          go_wp2_with fail
          refine (S2.out _ hb49).mono ?_
          rintro e w10 ⟨rfl, hb10⟩
          have hb410 := hb49.trans (hb10.mono hb49.size)
          go_wp2_with fail
          refine (S3.out _ hb410).mono ?_
          rintro e w11 ⟨rfl, hb11⟩
          have hb411 := hb410.trans (hb11.mono hb410.size)
          go_wp2_with fail
          go_meet
          exact ⟨rfl, hb411⟩
      · rcases hx with ⟨rfl, rfl, rfl⟩ | ⟨rfl, hx⟩
        · as_aux_lemma =>
            go_wp2_with fail
            refine (S1.out _ hb48).mono ?_
            rintro e w9 ⟨rfl, hb9⟩
            have hb49 := hb48.trans (hb9.mono hb48.size)
            go_wp2_with fail
            refine (S2.out _ hb49).mono ?_
            rintro e w10 ⟨rfl, hb10⟩
            have hb410 := hb49.trans (hb10.mono hb49.size)
            go_wp2_with fail
            refine (S3.out _ hb410).mono ?_
            rintro e w11 ⟨rfl, hb11⟩
            have hb411 := hb410.trans (hb11.mono hb410.size)
            go_wp2_with fail
            go_meet
            exact ⟨rfl, hb411⟩
        · as_aux_lemma =>
            have HX := Lib.hid hx; clear hx
            have hs3 : sm3 = false := HX.out
            subst hs3
            clear HX
            go_wp2_with fail
            refine (S1.out _ hb48).mono ?_
            rintro e w9 ⟨rfl, hb9⟩
            have hb49 := hb48.trans (hb9.mono hb48.size)
            go_wp2_with fail
            refine (S2.out _ hb49).mono ?_
            rintro e w10 ⟨rfl, hb10⟩
            have hb410 := hb49.trans (hb10.mono hb49.size)
            go_wp2_with fail
            refine (S3.out _ hb410).mono ?_
            rintro e w11 ⟨rfl, hb11⟩
            have hb411 := hb410.trans (hb11.mono hb410.size)
            go_wp2_with fail
            go_meet
            exact ⟨rfl, hb411⟩
    case rest =>
      obtain ⟨rfl, hbc⟩ := hcut
      clear S1 S2 S3 HC1 hb48
      go_wp2_with fail
      refine (O3.out _ hbc).mono ?_
      rintro e w9 ⟨rfl, hb9⟩
      have hb49 := hbc.trans (hb9.mono hbc.size)
      go_wp2_with fail
      refine (O4.out _ hb49).mono ?_
      rintro e w10 ⟨rfl, hb10⟩
      have hb410 := hb49.trans (hb10.mono hb49.size)
      clear O3 O4 hbc hb9 hb49 hb10
      go_upto_region 15 with fail
      go_cut [176] (fun s8 wx => s8 = .bool false ∧ Below w4.heap.size w4 wx)
      case first =>
        have hch2 := HC2.out
        clear HC2 HCS HO HP HFL HG
        have hch := chain2_more hch2
        clear hch2
        rcases hch with ⟨rfl, rfl, rfl, hx⟩ | rfl | ⟨rfl, rfl⟩
        · rcases hx with ⟨rfl, ha, hb⟩ | ⟨rfl, ha⟩ | ⟨rfl, ha, hb⟩ | ⟨rfl, ha⟩ | ⟨rfl, rfl, hb⟩ | ⟨rfl, rfl, hb⟩ | ⟨rfl, rfl, rfl⟩
          all_goals as_aux_lemma =>
            go_wp2_with fail
            go_meet
            first
            | exact ⟨rfl, hb410⟩
            | exact ⟨congrArg Value.bool (decide_eq_false (by omega)), hb410⟩
        · as_aux_lemma =>
            go_wp2_with fail
            go_meet
            exact ⟨rfl, hb410⟩
        · as_aux_lemma =>
            go_wp2_with fail
            go_meet
            exact ⟨rfl, hb410⟩
      case rest =>
        obtain ⟨rfl, hbc⟩ := hcut
        have hcs := HCS.out
        clear HC2 hb410
        have hp := HP.out s _ hbc
        rcases hcs with ⟨es, hrs, hps⟩ | ⟨hrs, hps⟩
        · rw [show readResO (some gs) s = (0, es) from hrs] at hp
          have hlen := parse_length gs s.size s es (Nat.le_refl _) hps
          have HRS := Lib.hid hrs; have HPS := Lib.hid hps; clear hrs hps
          go_wp2_with fail
          refine hp.mono ?_
          rintro e w11 h
          obtain ⟨A6, n6, c6, rfl, hx, hn6, hc6, hb11, hne⟩ := h.own
          have HNE := Lib.hid hne
          have hb411 := hbc.trans (hb11.mono hbc.size)
          clear h hne hp
          rcases Nat.eq_zero_or_pos n6 with hz | hz
          · subst hz
            go_wp2_with fail
            have hbn := hb04.trans (hb411.mono hb04.size)
            refine (KW.out _ hbn).mono ?_
            rintro e w12 ⟨rfl, hb12⟩
            go_wp2
            go_ret
            exact ⟨rfl, hbn.trans (hb12.mono hbn.size)⟩
          · obtain ⟨k, rfl⟩ : ∃ k, n6 = k + 1 := ⟨n6 - 1, by omega⟩
            have hke : k < es.length := by rw [← HNE.out]; omega
            obtain ⟨tl, tr, tord⟩ := take_order HG.out HPS.out hke (by omega)
            have hcc6 := hc6
            unfold maxLen at hcc6
            have hj := join_own A6 (k + 1) c6 _ k es w11 hx (by omega) hn6 (by omega) (by omega)
            have ho5 := fun W h => HO.out (mkB (joinE (es.take k))) s W h
            have hp5 := fun W h => HP.out (mkB (joinE (es.take k))) W h
            rw [show orderRes (readResO (some gs) (mkB (joinE (es.take k)))) (readResO (some gs) s) (mkB (joinE (es.take k))) s = (-1, 0) from tord] at ho5
            rw [show readResO (some gs) (mkB (joinE (es.take k))) = (0, es.take k) from tr] at hp5
            generalize mkB (joinE (es.take k)) = be at hj ho5 hp5
            have HO5 := Lib.hid ho5; have HP5 := Lib.hid hp5
            clear ho5 hp5 tl tr tord HO HP hlen
            go_wp2_with fail
            refine hj.mono ?_
            rintro e w12 ⟨rfl, hb12⟩
            have hb412 := hb411.trans (hb12.mono hb411.size)
            go_wp2_with fail
            refine (HO5.out _ hb412).mono ?_
            rintro e w13 ⟨rfl, hb13⟩
            have hb413 := hb412.trans (hb13.mono hb412.size)
            go_wp2_with fail
            refine (HP5.out _ hb413).mono ?_
            rintro e w14 h
            obtain ⟨A7, n7, c7, rfl, hm7, hn7, hb14, -⟩ := h.form
            have hb414 := hb413.trans (hb14.mono hb413.size)
            have hx14 := ((hx.below hb12).below hb13).below hb14
            have hrt := Reads.take (Reads.of_own hx14) (show k ≤ k + 1 by omega)
            have hrt2 : ReadS w14 w14.heap.size A6 k (letS (es.take k)) := by
              unfold ReadS; rw [letS_take, List.map_take]; exact hrt
            clear h hj hx hx14 hrt HO5 HP5 hb12 hb13 hb14
            go_wp2_with fail
            refine (equalS_refl A7 A6 n7 k c7 c6 (letS (es.take k)) w14 _ _ hm7 hrt2 hn7).mono ?_
            rintro e w15 ⟨rfl, q, rfl⟩
            have hbn := hb04.trans ((below_drewN hb414 q).mono hb04.size)
            go_wp2_with fail
            refine (KW.out _ hbn).mono ?_
            rintro e w16 ⟨rfl, hb16⟩
            go_wp2
            go_ret
            exact ⟨rfl, hbn.trans (hb16.mono hbn.size)⟩
        · rw [show readResO (some gs) s = (10, []) from hrs] at hp
          clear hrs hps
          go_wp2_with fail
          refine hp.mono ?_
          rintro e w11 h
          obtain ⟨A6, n6, c6, rfl, hx, hn6, hc6, hb11, rfl⟩ := h.own
          have hb411 := hbc.trans (hb11.mono hbc.size)
          clear h hp
          go_wp2_with fail
          have hbn := hb04.trans (hb411.mono hb04.size)
          refine (KW.out _ hbn).mono ?_
          rintro e w12 ⟨rfl, hb12⟩
          go_wp2
          go_ret
          exact ⟨rfl, hbn.trans (hb12.mono hbn.size)⟩
  · have kw := works_any w hm
    rw [Bool.not_eq_true] at h1
    rw [h1] at hf
    clear h1 hm hr hs hr1 hr2 hr3
    go_enter Tryd.func8, Tryd.ntmps8
    go_wp2_with fail
    refine hf.mono ?_
    rintro e w' ⟨rfl, rfl⟩
    go_wp2_with fail
    refine kw.mono ?_
    rintro e w8 ⟨rfl, hb8⟩
    go_wp2
    go_ret
    exact ⟨rfl, hb8⟩
end Go.Proofs.YtcdpadggjkobjaaDoor
