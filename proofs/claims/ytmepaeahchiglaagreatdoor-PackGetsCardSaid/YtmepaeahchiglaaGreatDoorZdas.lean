/-
 layer 43: lists, read by the program. Conditions: bytes that can be read. (Printed by pjsome2.py.)
-/
import Derived.Test.YtmepaeahchiglaaGreatDoorZdar
set_option maxRecDepth 20000
set_option maxHeartbeats 4000000
set_option linter.unusedSimpArgs false
set_option linter.unusedVariables false
namespace Go.Proofs.YtmepaeahchiglaaGreatDoor
open Go.RowKit Go.Lib
theorem F4 (w : World) (g : Nat) (bs : List Nat) (h : Rd w g bs)
 (fG : ∀ (W : World) (b : List Nat), Rd W g b → av [g] w W → Calls Tryz.prog 108 #[af g] W (dn g xm Mh W (bg b))) :
 Calls Tryz.prog 107 #[af g, .func (.func 108) #[af g] #[]] w (fu g 1 xm w (someR bg bs)) := by
 obtain ⟨i0, hi, hz0, hz1, hz2⟩ := info_parts (show (Tryz.prog.info? 9).map (fun i => (i.zero, i.size, i.bytes)) = some (some (.string ⟨#[]⟩), 1, 16) by kernel_rfl)
 have hgl := h.lt
 have mg := qh fG
 clear fG
 unfold someR
 cases hr : countR bs with
 | none =>
   have hc := bN h hr
   rw [thenR_none hr]
   clear h hr
   go_enter Tryz.func107, Tryz.ntmps107
   go_wp2_with fail
   refine hc.mono ?_
   rintro e w1 ⟨rfl, h1⟩
   exact ⟨rfl, h1, rfl⟩
 | some q =>
   obtain ⟨n, r⟩ := q
   have hc := bM h hr
   have hn := dC hr
   rw [thenR_some hr]
   obtain ⟨o, ho⟩ : ∃ o, manyR bg n r = o := ⟨_, rfl⟩
   rw [ho]
   have HO := qh ho
   clear h hr ho
   go_enter Tryz.func107, Tryz.ntmps107
   go_wp2_with fail
   refine hc.mono ?_
   rintro e w1 ⟨rfl, h1, h2⟩
   have hn30 : n ≤ 1073741824 := Nat.le_trans hn h1.bytes
   have H1 := qh h1; have H2 := qh h2
   clear h1 h2 hc
   go_wp2
   go_loopw [5, 8] (fun v i wr => ∃ k : Nat, ∃ l : List (ByteArray), ∃ xs b, i = .int .i64 k ∧ fq xm 1 9 bg w wr g n k o l v xs b) (fun _ i _ => n - (Lib.intOf i).toNat)
   case atStart => exact ⟨0, [], [], r, rfl, fq.start hgl H1.out H2.out HO.out⟩
   case round =>
    obtain ⟨k, l, xs, b, rfl, hR⟩ := hrel
    have HR := qh hR
    have hk := hR.hk
    have hsz := hR.ch.size
    clear hR
    by_cases hkn : k < n
    ·have cB : (k : Int) < n := by omega
     have ae := mg.out wr b HR.out.rd HR.out.ch
     cases hs : bg b with
     | none =>
       rw [hs] at ae
       obtain rfl := HR.out.none hkn hs
       have aj := qh ae
       clear hs ae
       go_wp2_with fail
       refine aj.out.mono ?_
       rintro e w2 ⟨hc2, rfl⟩
       exact ⟨rfl, HR.out.ch.trans hc2, rfl⟩
     | some q =>
       obtain ⟨x, b'⟩ := q
       rw [hs] at ae
       have aj := qh ae; have HS := qh hs
       clear hs ae
       go_wp2_with fail
       refine aj.out.mono ?_
       rintro e w2 ⟨hc2, cs1, rfl, bV, hr2⟩
       obtain rfl : cs1 = [Value.string x] := bV
       have aL := qh (HR.out.own2 hc2); have dR := qh (az w2 9 [.string x] 1 1 rfl)
       have hsz2 := hc2.size
       have H3 := qh hr2; have H4 := qh hc2; have nT := qh (show xm w2 (dW wr w2) x [.string x] from rfl)
       clear hr2 hc2 
       go_wp2_with (at_builtin; refine wpList_append_any _ rfl _ _ 22 rfl w.heap.size 9 i0 (.string ⟨#[]⟩) 1 16 Tryz.underlying22 hi hz0 hz1 hz2 rfl (by decide) _ _ _ rfl (aL.out.alloc _) _ _ _ _ [.string x] rfl dR.out (by intro u hu; simp only [List.mem_cons, List.not_mem_nil, or_false] at hu; rcases hu with rfl <;> rfl) (by unfold maxLen; omega) (by omega) (by simp; omega) ?_; intro v' w3 ai ag bK; have HN := qh (fq.next (ed _) HR.out hkn HS.out H4.out H3.out nT.out ai ag bK); clear ai ag bK)
       go_roundw
       case rel => exact ⟨k + 1, l ++ [x], _, b', by go_num, HN.out⟩
       case measure => simp [Lib.intOf]; omega
    ·obtain rfl : k = n := by omega
     obtain ⟨rfl, hsl⟩ := HR.out.fin (ed _)
     have zS := qh hsl
     clear hsl
     go_wp2
     go_ret
     exact ⟨HR.out.ch, _, rfl, zS.out, HR.out.rd⟩
theorem F6 (w : World) (g b2 : Nat) (bs : List Nat) (h : Rd w g bs)
 (fG : ∀ (W : World) (b : List Nat), Rd W g b → av [g] w W → Calls Tryz.prog 110 #[af b2] W (dn g xn fo W (lC b))) :
 Calls Tryz.prog 109 #[af g, .func (.func 110) #[] #[af b2]] w (fu g 3 xn w (someR lC bs)) := by
 obtain ⟨i0, hi, hz0, hz1, hz2⟩ := info_parts (show (Tryz.prog.info? 74).map (fun i => (i.zero, i.size, i.bytes)) = some (some (.agg #[.string ⟨#[]⟩, .int .u32 0, .int .u32 0]), 3, 24) by kernel_rfl)
 have hgl := h.lt
 have mg := qh fG
 clear fG
 unfold someR
 cases hr : countR bs with
 | none =>
   have hc := bN h hr
   rw [thenR_none hr]
   clear h hr
   go_enter Tryz.func109, Tryz.ntmps109
   go_wp2_with fail
   refine hc.mono ?_
   rintro e w1 ⟨rfl, h1⟩
   exact ⟨rfl, h1, rfl⟩
 | some q =>
   obtain ⟨n, r⟩ := q
   have hc := bM h hr
   have hn := dC hr
   rw [thenR_some hr]
   obtain ⟨o, ho⟩ : ∃ o, manyR lC n r = o := ⟨_, rfl⟩
   rw [ho]
   have HO := qh ho
   clear h hr ho
   go_enter Tryz.func109, Tryz.ntmps109
   go_wp2_with fail
   refine hc.mono ?_
   rintro e w1 ⟨rfl, h1, h2⟩
   have hn30 : n ≤ 1073741824 := Nat.le_trans hn h1.bytes
   have H1 := qh h1; have H2 := qh h2
   clear h1 h2 hc
   go_wp2
   go_loopw [5, 8] (fun v i wr => ∃ k : Nat, ∃ l : List (fw), ∃ xs b, i = .int .i64 k ∧ fq xn 3 74 lC w wr g n k o l v xs b) (fun _ i _ => n - (Lib.intOf i).toNat)
   case atStart => exact ⟨0, [], [], r, rfl, fq.start hgl H1.out H2.out HO.out⟩
   case round =>
    obtain ⟨k, l, xs, b, rfl, hR⟩ := hrel
    have HR := qh hR
    have hk := hR.hk
    have hsz := hR.ch.size
    clear hR
    by_cases hkn : k < n
    ·have cB : (k : Int) < n := by omega
     have ae := mg.out wr b HR.out.rd HR.out.ch
     cases hs : lC b with
     | none =>
       rw [hs] at ae
       obtain rfl := HR.out.none hkn hs
       have aj := qh ae
       clear hs ae
       go_wp2_with fail
       refine aj.out.mono ?_
       rintro e w2 ⟨hc2, rfl⟩
       exact ⟨rfl, HR.out.ch.trans hc2, rfl⟩
     | some q =>
       obtain ⟨x, b'⟩ := q
       rw [hs] at ae
       have aj := qh ae; have HS := qh hs
       clear hs ae
       go_wp2_with fail
       refine aj.out.mono ?_
       rintro e w2 ⟨hc2, cs1, rfl, bV, hr2⟩
       obtain rfl : cs1 = eP x := bV
       have aL := qh (HR.out.own2 hc2); have dR := qh (az w2 74 [.string x.1, .int .u32 x.2.1, .int .u32 x.2.2] 3 1 rfl)
       have hsz2 := hc2.size
       have H3 := qh hr2; have H4 := qh hc2; have nT := qh (show xn w2 (dW wr w2) x [.string x.1, .int .u32 x.2.1, .int .u32 x.2.2] from rfl)
       clear hr2 hc2 
       go_wp2_with (at_builtin; refine wpList_append_any _ rfl _ _ 23 rfl w.heap.size 74 i0 (.agg #[.string ⟨#[]⟩, .int .u32 0, .int .u32 0]) 3 24 Tryz.underlying23 hi hz0 hz1 hz2 rfl (by decide) _ _ _ rfl (aL.out.alloc _) _ _ _ _ [.string x.1, .int .u32 x.2.1, .int .u32 x.2.2] rfl dR.out (by intro u hu; simp only [List.mem_cons, List.not_mem_nil, or_false] at hu; rcases hu with rfl | rfl | rfl <;> rfl) (by unfold maxLen; omega) (by omega) (by simp; omega) ?_; intro v' w3 ai ag bK; have HN := qh (fq.next (ed _) HR.out hkn HS.out H4.out H3.out nT.out ai ag bK); clear ai ag bK)
       go_roundw
       case rel => exact ⟨k + 1, l ++ [x], _, b', by go_num, HN.out⟩
       case measure => simp [Lib.intOf]; omega
    ·obtain rfl : k = n := by omega
     obtain ⟨rfl, hsl⟩ := HR.out.fin (ed _)
     have zS := qh hsl
     clear hsl
     go_wp2
     go_ret
     exact ⟨HR.out.ch, _, rfl, zS.out, HR.out.rd⟩
theorem F7 (w : World) (g b2 : Nat) (bs : List Nat) (h : Rd w g bs)
 (fG : ∀ (W : World) (b : List Nat), Rd W g b → av [g] w W → Calls Tryz.prog 112 #[af b2] W (dn g wC fo W (lX b))) :
 Calls Tryz.prog 111 #[af g, .func (.func 112) #[] #[af b2]] w (fu g 4 wC w (someR lX bs)) := by
 obtain ⟨i0, hi, hz0, hz1, hz2⟩ := info_parts (show (Tryz.prog.info? 76).map (fun i => (i.zero, i.size, i.bytes)) = some (some (.agg #[.string ⟨#[]⟩, .int .u32 0, .int .u32 0, .int .u32 0]), 4, 32) by kernel_rfl)
 have hgl := h.lt
 have mg := qh fG
 clear fG
 unfold someR
 cases hr : countR bs with
 | none =>
   have hc := bN h hr
   rw [thenR_none hr]
   clear h hr
   go_enter Tryz.func111, Tryz.ntmps111
   go_wp2_with fail
   refine hc.mono ?_
   rintro e w1 ⟨rfl, h1⟩
   exact ⟨rfl, h1, rfl⟩
 | some q =>
   obtain ⟨n, r⟩ := q
   have hc := bM h hr
   have hn := dC hr
   rw [thenR_some hr]
   obtain ⟨o, ho⟩ : ∃ o, manyR lX n r = o := ⟨_, rfl⟩
   rw [ho]
   have HO := qh ho
   clear h hr ho
   go_enter Tryz.func111, Tryz.ntmps111
   go_wp2_with fail
   refine hc.mono ?_
   rintro e w1 ⟨rfl, h1, h2⟩
   have hn30 : n ≤ 1073741824 := Nat.le_trans hn h1.bytes
   have H1 := qh h1; have H2 := qh h2
   clear h1 h2 hc
   go_wp2
   go_loopw [5, 8] (fun v i wr => ∃ k : Nat, ∃ l : List (Mk), ∃ xs b, i = .int .i64 k ∧ fq wC 4 76 lX w wr g n k o l v xs b) (fun _ i _ => n - (Lib.intOf i).toNat)
   case atStart => exact ⟨0, [], [], r, rfl, fq.start hgl H1.out H2.out HO.out⟩
   case round =>
    obtain ⟨k, l, xs, b, rfl, hR⟩ := hrel
    have HR := qh hR
    have hk := hR.hk
    have hsz := hR.ch.size
    clear hR
    by_cases hkn : k < n
    ·have cB : (k : Int) < n := by omega
     have ae := mg.out wr b HR.out.rd HR.out.ch
     cases hs : lX b with
     | none =>
       rw [hs] at ae
       obtain rfl := HR.out.none hkn hs
       have aj := qh ae
       clear hs ae
       go_wp2_with fail
       refine aj.out.mono ?_
       rintro e w2 ⟨hc2, rfl⟩
       exact ⟨rfl, HR.out.ch.trans hc2, rfl⟩
     | some q =>
       obtain ⟨x, b'⟩ := q
       rw [hs] at ae
       have aj := qh ae; have HS := qh hs
       clear hs ae
       go_wp2_with fail
       refine aj.out.mono ?_
       rintro e w2 ⟨hc2, cs1, rfl, bV, hr2⟩
       obtain rfl : cs1 = ib x := bV
       have aL := qh (HR.out.own2 hc2); have dR := qh (az w2 76 [.string x.text, .int .u32 x.clear, .int .u32 x.set.1, .int .u32 x.set.2] 4 1 rfl)
       have hsz2 := hc2.size
       have H3 := qh hr2; have H4 := qh hc2; have nT := qh (show wC w2 (dW wr w2) x [.string x.text, .int .u32 x.clear, .int .u32 x.set.1, .int .u32 x.set.2] from rfl)
       clear hr2 hc2 
       go_wp2_with (at_builtin; refine wpList_append_any _ rfl _ _ 24 rfl w.heap.size 76 i0 (.agg #[.string ⟨#[]⟩, .int .u32 0, .int .u32 0, .int .u32 0]) 4 32 Tryz.underlying24 hi hz0 hz1 hz2 rfl (by decide) _ _ _ rfl (aL.out.alloc _) _ _ _ _ [.string x.text, .int .u32 x.clear, .int .u32 x.set.1, .int .u32 x.set.2] rfl dR.out (by intro u hu; simp only [List.mem_cons, List.not_mem_nil, or_false] at hu; rcases hu with rfl | rfl | rfl | rfl <;> rfl) (by unfold maxLen; omega) (by omega) (by simp; omega) ?_; intro v' w3 ai ag bK; have HN := qh (fq.next (ed _) HR.out hkn HS.out H4.out H3.out nT.out ai ag bK); clear ai ag bK)
       go_roundw
       case rel => exact ⟨k + 1, l ++ [x], _, b', by go_num, HN.out⟩
       case measure => simp [Lib.intOf]; omega
    ·obtain rfl : k = n := by omega
     obtain ⟨rfl, hsl⟩ := HR.out.fin (ed _)
     have zS := qh hsl
     clear hsl
     go_wp2
     go_ret
     exact ⟨HR.out.ch, _, rfl, zS.out, HR.out.rd⟩
theorem Gc (w : World) (g b2 : Nat) (bs : List Nat) (h : Rd w g bs)
 (fG : ∀ (W : World) (b : List Nat), Rd W g b → av [g] w W → Calls Tryz.prog 162 #[af b2] W (dn g LC fo W (CF b))) :
 Calls Tryz.prog 161 #[af g, .func (.func 162) #[] #[af b2]] w (fu g 2 LC w (someR CF bs)) := by
 obtain ⟨i0, hi, hz0, hz1, hz2⟩ := info_parts (show (Tryz.prog.info? 78).map (fun i => (i.zero, i.size, i.bytes)) = some (some (.agg #[.int .i64 0, .string ⟨#[]⟩]), 2, 24) by kernel_rfl)
 have hgl := h.lt
 have mg := qh fG
 clear fG
 unfold someR
 cases hr : countR bs with
 | none =>
   have hc := bN h hr
   rw [thenR_none hr]
   clear h hr
   go_enter Tryz.func161, Tryz.ntmps161
   go_wp2_with fail
   refine hc.mono ?_
   rintro e w1 ⟨rfl, h1⟩
   exact ⟨rfl, h1, rfl⟩
 | some q =>
   obtain ⟨n, r⟩ := q
   have hc := bM h hr
   have hn := dC hr
   rw [thenR_some hr]
   obtain ⟨o, ho⟩ : ∃ o, manyR CF n r = o := ⟨_, rfl⟩
   rw [ho]
   have HO := qh ho
   clear h hr ho
   go_enter Tryz.func161, Tryz.ntmps161
   go_wp2_with fail
   refine hc.mono ?_
   rintro e w1 ⟨rfl, h1, h2⟩
   have hn30 : n ≤ 1073741824 := Nat.le_trans hn h1.bytes
   have H1 := qh h1; have H2 := qh h2
   clear h1 h2 hc
   go_wp2
   go_loopw [5, 8] (fun v i wr => ∃ k : Nat, ∃ l : List (Nd), ∃ xs b, i = .int .i64 k ∧ fq LC 2 78 CF w wr g n k o l v xs b) (fun _ i _ => n - (Lib.intOf i).toNat)
   case atStart => exact ⟨0, [], [], r, rfl, fq.start hgl H1.out H2.out HO.out⟩
   case round =>
    obtain ⟨k, l, xs, b, rfl, hR⟩ := hrel
    have HR := qh hR
    have hk := hR.hk
    have hsz := hR.ch.size
    clear hR
    by_cases hkn : k < n
    ·have cB : (k : Int) < n := by omega
     have ae := mg.out wr b HR.out.rd HR.out.ch
     cases hs : CF b with
     | none =>
       rw [hs] at ae
       obtain rfl := HR.out.none hkn hs
       have aj := qh ae
       clear hs ae
       go_wp2_with fail
       refine aj.out.mono ?_
       rintro e w2 ⟨hc2, rfl⟩
       exact ⟨rfl, HR.out.ch.trans hc2, rfl⟩
     | some q =>
       obtain ⟨x, b'⟩ := q
       rw [hs] at ae
       have aj := qh ae; have HS := qh hs
       clear hs ae
       go_wp2_with fail
       refine aj.out.mono ?_
       rintro e w2 ⟨hc2, cs1, rfl, bV, hr2⟩
       obtain rfl : cs1 = [Value.int .i64 x.1, Value.string x.2] := bV
       have aL := qh (HR.out.own2 hc2); have dR := qh (az w2 78 [.int .i64 x.1, .string x.2] 2 1 rfl)
       have hsz2 := hc2.size
       have H3 := qh hr2; have H4 := qh hc2; have nT := qh (show LC w2 (dW wr w2) x [.int .i64 x.1, .string x.2] from rfl)
       clear hr2 hc2 
       go_wp2_with (at_builtin; refine wpList_append_any _ rfl _ _ 25 rfl w.heap.size 78 i0 (.agg #[.int .i64 0, .string ⟨#[]⟩]) 2 24 Tryz.underlying25 hi hz0 hz1 hz2 rfl (by decide) _ _ _ rfl (aL.out.alloc _) _ _ _ _ [.int .i64 x.1, .string x.2] rfl dR.out (by intro u hu; simp only [List.mem_cons, List.not_mem_nil, or_false] at hu; rcases hu with rfl | rfl <;> rfl) (by unfold maxLen; omega) (by omega) (by simp; omega) ?_; intro v' w3 ai ag bK; have HN := qh (fq.next (ed _) HR.out hkn HS.out H4.out H3.out nT.out ai ag bK); clear ai ag bK)
       go_roundw
       case rel => exact ⟨k + 1, l ++ [x], _, b', by go_num, HN.out⟩
       case measure => simp [Lib.intOf]; omega
    ·obtain rfl : k = n := by omega
     obtain ⟨rfl, hsl⟩ := HR.out.fin (ed _)
     have zS := qh hsl
     clear hsl
     go_wp2
     go_ret
     exact ⟨HR.out.ch, _, rfl, zS.out, HR.out.rd⟩
theorem F9 (w : World) (g : Nat) (bs : List Nat) (h : Rd w g bs)
 (fG : ∀ (W : World) (b : List Nat), Rd W g b → av [g] w W → Calls Tryz.prog 138 #[af g] W (dn g xu Mh W (lG b))) :
 Calls Tryz.prog 164 #[af g, .func (.func 138) #[af g] #[]] w (fu g 1 xu w (someR lG bs)) := by
 obtain ⟨i0, hi, hz0, hz1, hz2⟩ := info_parts (show (Tryz.prog.info? 3).map (fun i => (i.zero, i.size, i.bytes)) = some (some (.int .i64 0), 1, 8) by kernel_rfl)
 have hgl := h.lt
 have mg := qh fG
 clear fG
 unfold someR
 cases hr : countR bs with
 | none =>
   have hc := bN h hr
   rw [thenR_none hr]
   clear h hr
   go_enter Tryz.func164, Tryz.ntmps164
   go_wp2_with fail
   refine hc.mono ?_
   rintro e w1 ⟨rfl, h1⟩
   exact ⟨rfl, h1, rfl⟩
 | some q =>
   obtain ⟨n, r⟩ := q
   have hc := bM h hr
   have hn := dC hr
   rw [thenR_some hr]
   obtain ⟨o, ho⟩ : ∃ o, manyR lG n r = o := ⟨_, rfl⟩
   rw [ho]
   have HO := qh ho
   clear h hr ho
   go_enter Tryz.func164, Tryz.ntmps164
   go_wp2_with fail
   refine hc.mono ?_
   rintro e w1 ⟨rfl, h1, h2⟩
   have hn30 : n ≤ 1073741824 := Nat.le_trans hn h1.bytes
   have H1 := qh h1; have H2 := qh h2
   clear h1 h2 hc
   go_wp2
   go_loopw [5, 8] (fun v i wr => ∃ k : Nat, ∃ l : List (Int), ∃ xs b, i = .int .i64 k ∧ fq xu 1 3 lG w wr g n k o l v xs b) (fun _ i _ => n - (Lib.intOf i).toNat)
   case atStart => exact ⟨0, [], [], r, rfl, fq.start hgl H1.out H2.out HO.out⟩
   case round =>
    obtain ⟨k, l, xs, b, rfl, hR⟩ := hrel
    have HR := qh hR
    have hk := hR.hk
    have hsz := hR.ch.size
    clear hR
    by_cases hkn : k < n
    ·have cB : (k : Int) < n := by omega
     have ae := mg.out wr b HR.out.rd HR.out.ch
     cases hs : lG b with
     | none =>
       rw [hs] at ae
       obtain rfl := HR.out.none hkn hs
       have aj := qh ae
       clear hs ae
       go_wp2_with fail
       refine aj.out.mono ?_
       rintro e w2 ⟨hc2, rfl⟩
       exact ⟨rfl, HR.out.ch.trans hc2, rfl⟩
     | some q =>
       obtain ⟨x, b'⟩ := q
       rw [hs] at ae
       have aj := qh ae; have HS := qh hs
       clear hs ae
       go_wp2_with fail
       refine aj.out.mono ?_
       rintro e w2 ⟨hc2, cs1, rfl, bV, hr2⟩
       obtain rfl : cs1 = [Value.int .i64 x] := bV
       have aL := qh (HR.out.own2 hc2); have dR := qh (az w2 3 [.int .i64 x] 1 1 rfl)
       have hsz2 := hc2.size
       have H3 := qh hr2; have H4 := qh hc2; have nT := qh (show xu w2 (dW wr w2) x [.int .i64 x] from rfl)
       clear hr2 hc2 
       go_wp2_with (at_builtin; refine wpList_append_any _ rfl _ _ 144 rfl w.heap.size 3 i0 (.int .i64 0) 1 8 Tryz.underlying144 hi hz0 hz1 hz2 rfl (by decide) _ _ _ rfl (aL.out.alloc _) _ _ _ _ [.int .i64 x] rfl dR.out (by intro u hu; simp only [List.mem_cons, List.not_mem_nil, or_false] at hu; rcases hu with rfl <;> rfl) (by unfold maxLen; omega) (by omega) (by simp; omega) ?_; intro v' w3 ai ag bK; have HN := qh (fq.next (ed _) HR.out hkn HS.out H4.out H3.out nT.out ai ag bK); clear ai ag bK)
       go_roundw
       case rel => exact ⟨k + 1, l ++ [x], _, b', by go_num, HN.out⟩
       case measure => simp [Lib.intOf]; omega
    ·obtain rfl : k = n := by omega
     obtain ⟨rfl, hsl⟩ := HR.out.fin (ed _)
     have zS := qh hsl
     clear hsl
     go_wp2
     go_ret
     exact ⟨HR.out.ch, _, rfl, zS.out, HR.out.rd⟩
theorem Ga (w : World) (g : Nat) (bs : List Nat) (h : Rd w g bs)
 (fG : ∀ (W : World) (b : List Nat), Rd W g b → av [g] w W → Calls Tryz.prog 116 #[af g] W (dn g bP fo W (gG b))) :
 Calls Tryz.prog 115 #[af g, .func (.func 116) #[af g] #[]] w (fu g 2 bP w (someR gG bs)) := by
 obtain ⟨i0, hi, hz0, hz1, hz2⟩ := info_parts (show (Tryz.prog.info? 82).map (fun i => (i.zero, i.size, i.bytes)) = some (some (.agg #[.bool false, .slice none 0 0]), 2, 32) by kernel_rfl)
 have hgl := h.lt
 have mg := qh fG
 clear fG
 unfold someR
 cases hr : countR bs with
 | none =>
   have hc := bN h hr
   rw [thenR_none hr]
   clear h hr
   go_enter Tryz.func115, Tryz.ntmps115
   go_wp2_with fail
   refine hc.mono ?_
   rintro e w1 ⟨rfl, h1⟩
   exact ⟨rfl, h1, rfl⟩
 | some q =>
   obtain ⟨n, r⟩ := q
   have hc := bM h hr
   have hn := dC hr
   rw [thenR_some hr]
   obtain ⟨o, ho⟩ : ∃ o, manyR gG n r = o := ⟨_, rfl⟩
   rw [ho]
   have HO := qh ho
   clear h hr ho
   go_enter Tryz.func115, Tryz.ntmps115
   go_wp2_with fail
   refine hc.mono ?_
   rintro e w1 ⟨rfl, h1, h2⟩
   have hn30 : n ≤ 1073741824 := Nat.le_trans hn h1.bytes
   have H1 := qh h1; have H2 := qh h2
   clear h1 h2 hc
   go_wp2
   go_loopw [5, 8] (fun v i wr => ∃ k : Nat, ∃ l : List (Fm), ∃ xs b, i = .int .i64 k ∧ fq bP 2 82 gG w wr g n k o l v xs b) (fun _ i _ => n - (Lib.intOf i).toNat)
   case atStart => exact ⟨0, [], [], r, rfl, fq.start hgl H1.out H2.out HO.out⟩
   case round =>
    obtain ⟨k, l, xs, b, rfl, hR⟩ := hrel
    have HR := qh hR
    have hk := hR.hk
    have hsz := hR.ch.size
    clear hR
    by_cases hkn : k < n
    ·have cB : (k : Int) < n := by omega
     have ae := mg.out wr b HR.out.rd HR.out.ch
     cases hs : gG b with
     | none =>
       rw [hs] at ae
       obtain rfl := HR.out.none hkn hs
       have aj := qh ae
       clear hs ae
       go_wp2_with fail
       refine aj.out.mono ?_
       rintro e w2 ⟨hc2, rfl⟩
       exact ⟨rfl, HR.out.ch.trans hc2, rfl⟩
     | some q =>
       obtain ⟨x, b'⟩ := q
       rw [hs] at ae
       have aj := qh ae; have HS := qh hs
       clear hs ae
       go_wp2_with fail
       refine aj.out.mono ?_
       rintro e w2 ⟨hc2, cs1, rfl, bV, hr2⟩
       obtain ⟨v9, rfl, hsl9⟩ := bV
       obtain ⟨A9, c9, rfl⟩ := hsl9.form
       have bV : bP w2 (dW wr w2) x [.bool x.has, .slice A9 x.w.length c9] := ⟨_, rfl, hsl9⟩
       have aL := qh (HR.out.own2 hc2); have dR := qh (az w2 82 [.bool x.has, .slice A9 x.w.length c9] 2 1 rfl)
       have hsz2 := hc2.size
       have H3 := qh hr2; have H4 := qh hc2; have nT := qh (show bP w2 (dW wr w2) x [.bool x.has, .slice A9 x.w.length c9] from bV)
       clear hr2 hc2 bV hsl9
       go_wp2_with (at_builtin; refine wpList_append_any _ rfl _ _ 30 rfl w.heap.size 82 i0 (.agg #[.bool false, .slice none 0 0]) 2 32 Tryz.underlying30 hi hz0 hz1 hz2 rfl (by decide) _ _ _ rfl (aL.out.alloc _) _ _ _ _ [.bool x.has, .slice A9 x.w.length c9] rfl dR.out (by intro u hu; simp only [List.mem_cons, List.not_mem_nil, or_false] at hu; rcases hu with rfl | rfl <;> rfl) (by unfold maxLen; omega) (by omega) (by simp; omega) ?_; intro v' w3 ai ag bK; have HN := qh (fq.next BG HR.out hkn HS.out H4.out H3.out nT.out ai ag bK); clear ai ag bK)
       go_roundw
       case rel => exact ⟨k + 1, l ++ [x], _, b', by go_num, HN.out⟩
       case measure => simp [Lib.intOf]; omega
    ·obtain rfl : k = n := by omega
     obtain ⟨rfl, hsl⟩ := HR.out.fin BG
     have zS := qh hsl
     clear hsl
     go_wp2
     go_ret
     exact ⟨HR.out.ch, _, rfl, zS.out, HR.out.rd⟩
theorem Gb (w : World) (g b2 : Nat) (bs : List Nat) (h : Rd w g bs)
 (fG : ∀ (W : World) (b : List Nat), Rd W g b → av [g] w W → Calls Tryz.prog 118 #[af b2] W (dn g xB fo W (Ce b))) :
 Calls Tryz.prog 117 #[af g, .func (.func 118) #[] #[af b2]] w (fu g 2 xB w (someR Ce bs)) := by
 obtain ⟨i0, hi, hz0, hz1, hz2⟩ := info_parts (show (Tryz.prog.info? 84).map (fun i => (i.zero, i.size, i.bytes)) = some (some (.agg #[.string ⟨#[]⟩, .slice none 0 0]), 2, 40) by kernel_rfl)
 have hgl := h.lt
 have mg := qh fG
 clear fG
 unfold someR
 cases hr : countR bs with
 | none =>
   have hc := bN h hr
   rw [thenR_none hr]
   clear h hr
   go_enter Tryz.func117, Tryz.ntmps117
   go_wp2_with fail
   refine hc.mono ?_
   rintro e w1 ⟨rfl, h1⟩
   exact ⟨rfl, h1, rfl⟩
 | some q =>
   obtain ⟨n, r⟩ := q
   have hc := bM h hr
   have hn := dC hr
   rw [thenR_some hr]
   obtain ⟨o, ho⟩ : ∃ o, manyR Ce n r = o := ⟨_, rfl⟩
   rw [ho]
   have HO := qh ho
   clear h hr ho
   go_enter Tryz.func117, Tryz.ntmps117
   go_wp2_with fail
   refine hc.mono ?_
   rintro e w1 ⟨rfl, h1, h2⟩
   have hn30 : n ≤ 1073741824 := Nat.le_trans hn h1.bytes
   have H1 := qh h1; have H2 := qh h2
   clear h1 h2 hc
   go_wp2
   go_loopw [5, 8] (fun v i wr => ∃ k : Nat, ∃ l : List (En), ∃ xs b, i = .int .i64 k ∧ fq xB 2 84 Ce w wr g n k o l v xs b) (fun _ i _ => n - (Lib.intOf i).toNat)
   case atStart => exact ⟨0, [], [], r, rfl, fq.start hgl H1.out H2.out HO.out⟩
   case round =>
    obtain ⟨k, l, xs, b, rfl, hR⟩ := hrel
    have HR := qh hR
    have hk := hR.hk
    have hsz := hR.ch.size
    clear hR
    by_cases hkn : k < n
    ·have cB : (k : Int) < n := by omega
     have ae := mg.out wr b HR.out.rd HR.out.ch
     cases hs : Ce b with
     | none =>
       rw [hs] at ae
       obtain rfl := HR.out.none hkn hs
       have aj := qh ae
       clear hs ae
       go_wp2_with fail
       refine aj.out.mono ?_
       rintro e w2 ⟨hc2, rfl⟩
       exact ⟨rfl, HR.out.ch.trans hc2, rfl⟩
     | some q =>
       obtain ⟨x, b'⟩ := q
       rw [hs] at ae
       have aj := qh ae; have HS := qh hs
       clear hs ae
       go_wp2_with fail
       refine aj.out.mono ?_
       rintro e w2 ⟨hc2, cs1, rfl, bV, hr2⟩
       obtain ⟨v9, rfl, hsl9⟩ := bV
       obtain ⟨A9, c9, rfl⟩ := hsl9.form
       have bV : xB w2 (dW wr w2) x [.string x.bX, .slice A9 x.bU.length c9] := ⟨_, rfl, hsl9⟩
       have aL := qh (HR.out.own2 hc2); have dR := qh (az w2 84 [.string x.bX, .slice A9 x.bU.length c9] 2 1 rfl)
       have hsz2 := hc2.size
       have H3 := qh hr2; have H4 := qh hc2; have nT := qh (show xB w2 (dW wr w2) x [.string x.bX, .slice A9 x.bU.length c9] from bV)
       clear hr2 hc2 bV hsl9
       go_wp2_with (at_builtin; refine wpList_append_any _ rfl _ _ 31 rfl w.heap.size 84 i0 (.agg #[.string ⟨#[]⟩, .slice none 0 0]) 2 40 Tryz.underlying31 hi hz0 hz1 hz2 rfl (by decide) _ _ _ rfl (aL.out.alloc _) _ _ _ _ [.string x.bX, .slice A9 x.bU.length c9] rfl dR.out (by intro u hu; simp only [List.mem_cons, List.not_mem_nil, or_false] at hu; rcases hu with rfl | rfl <;> rfl) (by unfold maxLen; omega) (by omega) (by simp; omega) ?_; intro v' w3 ai ag bK; have HN := qh (fq.next JC HR.out hkn HS.out H4.out H3.out nT.out ai ag bK); clear ai ag bK)
       go_roundw
       case rel => exact ⟨k + 1, l ++ [x], _, b', by go_num, HN.out⟩
       case measure => simp [Lib.intOf]; omega
    ·obtain rfl : k = n := by omega
     obtain ⟨rfl, hsl⟩ := HR.out.fin JC
     have zS := qh hsl
     clear hsl
     go_wp2
     go_ret
     exact ⟨HR.out.ch, _, rfl, zS.out, HR.out.rd⟩
theorem rG (w : World) (g : Nat) (bs : List Nat) (h : Rd w g bs) :
 Calls Tryz.prog 115 #[af g, .func (.func 116) #[af g] #[]] w (fu g 2 bP w (someR gG bs)) :=
 Ga w g bs h fun W b hW _ => MI W g b hW
theorem Kk (w : World) (g b2 : Nat) (bs : List Nat) (h : Rd w g bs) (h2 : Blk w b2 104 #[af g]) :
 Calls Tryz.prog 118 #[af b2] w (dn g xB fo w (Ce bs)) := by
 have hs := wM.start h h2 84 #[.string ⟨#[]⟩, .slice none 0 0]
 have hp := hs.ptr
 obtain ⟨o, ho⟩ : ∃ o, Ce bs = o := ⟨_, rfl⟩
 rw [ho]
 unfold Ce at ho
 have HS := qh hs
 clear hs h h2
 go_enter Tryz.func118, Tryz.ntmps118
 go_wp2_with fail
 cases hr0 : bg bs with
 | none =>
   rw [thenR_none hr0] at ho
   subst ho
   refine (jB HS.out.rd hr0).mono ?_
   rintro e w1 ⟨rfl, h1⟩
   exact ⟨rfl, HS.out.ch.trans h1, rfl⟩
 | some q =>
   obtain ⟨s, r0⟩ := q
   rw [thenR_some hr0] at ho
   have hc := jA HS.out.rd hr0
   clear hr0
   refine hc.mono ?_
   rintro e w1 ⟨rfl, h1, h2⟩
   have hs1 := HS.out.aB h2 h1
   have hp1 := hs1.ptr
   have ae := rG w1 g r0 hs1.rd
   have iZ := qh hs1
   clear h1 h2 hs1 hp HS hc
   cases hr1 : someR gG r0 with
   | none =>
     rw [hr1] at ae
     rw [thenR_none hr1] at ho
     subst ho
     have aj := qh ae
     clear ae hr1
     go_wp2_with fail
     refine aj.out.mono ?_
     rintro e w2 ⟨h1, rfl⟩
     exact ⟨rfl, iZ.out.ch.trans h1, rfl⟩
   | some q =>
     obtain ⟨l, r1⟩ := q
     rw [hr1] at ae
     rw [thenR_some hr1] at ho
     have aj := qh ae; have HO := qh ho
     clear ae hr1 ho
     go_wp2_with fail
     refine aj.out.mono ?_
     rintro e w2 ⟨h1, v, rfl, h2, h3⟩
     obtain ⟨A, c, rfl⟩ := h2.form
     have hsw := iZ.out.rs.lt
     have hs2 := iZ.out.aB h1 h3
     obtain ⟨⟨c0, c1⟩, f0, f1⟩ := hs2.two
     have hf := ((hs2.set_ 0 (.string s)).set_ 1 (.slice A l.length c))
     simp only [gq1] at hf
     have aC : av [w.heap.size] w2 ((w2.setCell ⟨w.heap.size, 0, none⟩ (.string s)).setCell ⟨w.heap.size, 1, none⟩ (.slice A l.length c)) := ((av.refl _ _).setCell (.inl (by simp)) _).setCell (.inl (by simp)) _
     have dI := aC.size
     have hcell : ∀ q : Addr, dW w1 w2 q.block → ((w2.setCell ⟨w.heap.size, 0, none⟩ (.string s)).setCell ⟨w.heap.size, 1, none⟩ (.slice A l.length c)).cell? q = w2.cell? q := fun q hq => by
      unfold World.cell?
      rw [aC.block q.block hq.2 (by have := hq.1; simp; omega)]
     have gJ : ∀ b, dW w1 w2 b → dW w ((w2.setCell ⟨w.heap.size, 0, none⟩ (.string s)).setCell ⟨w.heap.size, 1, none⟩ (.slice A l.length c)) b := fun b hb => ⟨by have := hb.1; omega, by have := hb.2; omega⟩
     have ay : dn g xB fo w (some ((⟨s, l⟩ : En), r1)) (.returned (fo [.string s, .slice A l.length c])) ((w2.setCell ⟨w.heap.size, 0, none⟩ (.string s)).setCell ⟨w.heap.size, 1, none⟩ (.slice A l.length c)) :=
      ⟨hf.ch, _, rfl, ⟨_, rfl, h2.imp gJ hcell fun _ _ hy => hy.keep gJ hcell⟩, hf.rd⟩
     have HF := qh hf; have aD := qh ay
     clear h1 h2 h3 hs2 hp1 iZ hf aC dI hcell gJ ay
     go_wp2
     obtain ⟨⟨d0, d1⟩, -⟩ := HF.out.two
     have ho := HO.out
     subst ho
     exact bodyPost_ret (by simp [results, Tryz.results118, go_sem, d0, d1]) rfl aD.out
structure gY (w W : World) (g : Nat) (r : List Nat) (t : TypeId) (zs cs : Array Value) : Prop where
 ch : av [g] w W
 rd : Rd W g r
 cb : Blk W w.heap.size 104 #[af g]
 rs : Blk W (w.heap.size + 1) t zs
 bx : Blk W (w.heap.size + 1 + 1) t cs
 gw : g < w.heap.size
abbrev xq (w W : World) : Nat → Prop := fun b => w.heap.size + 3 ≤ b ∧ b < W.heap.size
section
variable {w W W' : World} {g : Nat} {r r' : List Nat} {t : TypeId} {zs cs : Array Value}
theorem gY.start (h : Rd w g r) (t : TypeId) (zs : Array Value) : gY w (((w.alloc (.cells #[af g] 104)).alloc (.cells zs t)).alloc (.cells zs t)) g r t zs zs := by
 have x1 := Blk.new (w.alloc (.cells #[af g] 104)) t zs
 have x2 := Blk.new ((w.alloc (.cells #[af g] 104)).alloc (.cells zs t)) t zs
 rw [World.size_alloc] at x1 x2
 rw [World.size_alloc] at x2
 exact ⟨(((av.refl _ w).alloc _).alloc _).alloc _, ((h.alloc _).alloc _).alloc _, ((Blk.new w _ _).alloc _).alloc _, x1.alloc _, x2, h.lt⟩
theorem gY.aB (h : gY w W g r t zs cs) (hc : av [g] W W') (hr : Rd W' g r') : gY w W' g r' t zs cs := by
 have h1 := h.gw
 exact ⟨h.ch.trans hc, hr, h.cb.aB hc (by simp; omega), h.rs.aB hc (by simp; omega), h.bx.aB hc (by simp; omega), h1⟩
theorem gY.set_ (h : gY w W g r t zs cs) (i : Nat) (u : Value) : gY w (W.setCell ⟨w.heap.size + 1 + 1, i, none⟩ u) g r t zs (cs.setIfInBounds i u) := by
 have h1 := h.gw
 have hc : av [w.heap.size + 1 + 1] W (W.setCell ⟨w.heap.size + 1 + 1, i, none⟩ u) := (av.refl _ _).setCell (.inl (by simp)) u
 exact ⟨h.ch.new hc (fun j hj => .inr (by simp at hj; omega)), h.rd.aB hc (by simp; omega), h.cb.aB hc (by simp only [List.mem_singleton]; omega), h.rs.aB hc (by simp only [List.mem_singleton]; omega), h.bx.set_ i u, h1⟩
theorem gY.um (h : gY w W g r t zs cs) (i : Nat) (u : Value) : gY w (W.setCell ⟨w.heap.size + 1, i, none⟩ u) g r t (zs.setIfInBounds i u) cs := by
 have h1 := h.gw
 have hc : av [w.heap.size + 1] W (W.setCell ⟨w.heap.size + 1, i, none⟩ u) := (av.refl _ _).setCell (.inl (by simp)) u
 exact ⟨h.ch.new hc (fun j hj => .inr (by simp at hj; omega)), h.rd.aB hc (by simp; omega), h.cb.aB hc (by simp only [List.mem_singleton]; omega), h.rs.set_ i u, h.bx.aB hc (by simp only [List.mem_singleton]; omega), h1⟩
theorem gY.drew (h : gY w W g r t zs cs) : gY w W.drew g r t zs cs := ⟨h.ch.drew, h.rd, h.cb, h.rs, h.bx, h.gw⟩
theorem gY.alloc (h : gY w W g r t zs cs) (o : Obj) : gY w (W.alloc o) g r t zs cs := ⟨h.ch.alloc o, h.rd.alloc o, h.cb.alloc o, h.rs.alloc o, h.bx.alloc o, h.gw⟩
theorem gY.grown {row : Option Nat} {B : Nat} (h : gY w W g r t zs cs) (hg : W.grownBy W' row) (hr : ∀ k, row = some k → B ≤ k) (hB : w.heap.size + 3 ≤ B) : gY w W' g r t zs cs := by
 have h1 := h.gw
 have hne : ∀ i, i < w.heap.size + 3 → some i ≠ row := fun i hi e => by have := hr i e.symm; omega
 exact ⟨h.ch.grown hg fun k hk => by have := hr k hk; omega, h.rd.grown hg fun k hk => by have := hr k hk; omega, h.cb.grown hg (hne _ (by omega)), h.rs.grown hg (hne _ (by omega)), h.bx.grown hg (hne _ (by omega)), h1⟩
theorem gY.ptr (h : gY w W g r t zs cs) : W.cell? ⟨w.heap.size, 0, none⟩ = some (af g) := by simpa using h.cb.cell 0
theorem gY.size (h : gY w W g r t zs cs) : w.heap.size + 3 ≤ W.heap.size := by have := h.bx.lt; omega
end
theorem F5 {α : Type} {g : Rdr α} {b r : List Nat} {l : List α} (h : someR g b = some (l, r)) (hb : ∀ c ∈ b, c < 256) : l.length ≤ b.length := by
 obtain ⟨n, s, e1, e2⟩ := thenR_out (show thenR countR (fun n => manyR g n) b = some (l, r) from h)
 have h1 := (oC b n s hb e1).1
 have h2 : ∀ (n : Nat) (b : List Nat) (l : List α) (r : List Nat), manyR g n b = some (l, r) → l.length = n := by
  intro n
  induction n with
  | zero =>
    intro b l r h
    injection h with h
    obtain ⟨rfl, -⟩ := Prod.mk.inj h
    rfl
  | succ n ih =>
    intro b l r h
    obtain ⟨x, s, -, h⟩ := thenR_out (show thenR g (fun x => thenR (manyR g n) fun l r => some (x :: l, r)) b = some (l, r) from h)
    obtain ⟨l2, t, e2, h⟩ := thenR_out h
    injection h with h
    obtain ⟨rfl, -⟩ := Prod.mk.inj h
    rw [List.length_cons, ih _ _ _ e2]
 rw [h2 n s l r e2]
 exact h1
def iU {α : Type} (F : World → (Nat → Prop) → α → List Value → Prop) : Prop := ∀ (w w' : World) (S S' : Nat → Prop) (x : α) (cs : List Value), (∀ b, S b → S' b) → (∀ q : Addr, S q.block → w'.cell? q = w.cell? q) → F w S x cs → F w' S' x cs
theorem aa {α : Type} (f : α → List Value) : iU (jN f) := fun _ _ _ _ _ _ _ _ h => h
theorem aX : iU iH := fun _ _ _ _ _ _ hs hk h => h.keep hs hk
theorem cO : iU zG := fun _ _ _ _ _ _ hs hk h => zG.keep hs hk h
theorem dL : iU bP := fun _ _ _ _ _ _ hs hk h => bP.keep hs hk h
theorem jY : iU xB := fun _ _ _ _ _ _ hs hk h => xB.keep hs hk h
section
variable {α : Type} {F : World → (Nat → Prop) → α → List Value → Prop} {w w1 W W' : World} {T : List Nat} {k : Nat} {l : List α} {v : Value} {x : α} {cs : List Value}
theorem dw.later3 (hF : iU F) (h : dw F k W (xq w W) l v) (hc : av T W W') (ht : ∀ i ∈ T, i < w.heap.size + 3) : dw F k W' (xq w W') l v := by
 have h1 : ∀ b, xq w W b → xq w W' b := fun b hb => ⟨hb.1, Nat.lt_of_lt_of_le hb.2 hc.size⟩
 have h2 : ∀ q : Addr, xq w W q.block → W'.cell? q = W.cell? q := fun q hq => by
  unfold World.cell?
  rw [hc.block q.block hq.2 (fun hm => by have := ht _ hm; have := hq.1; omega)]
 exact h.imp h1 h2 fun _ _ hy => hF _ _ _ _ _ _ h1 h2 hy
theorem dw.new3 (hF : iU F) (h : dw F k W (dW w1 W) l v) (hs : w.heap.size + 3 ≤ w1.heap.size) : dw F k W (xq w W) l v := by
 have h1 : ∀ b, dW w1 W b → xq w W b := fun b hb => ⟨by have := hb.1; omega, hb.2⟩
 exact h.imp h1 (fun _ _ => rfl) fun _ _ hy => hF _ _ _ _ _ _ h1 (fun _ _ => rfl) hy
end
theorem dw.mD {α : Type} {F : World → (Nat → Prop) → α → List Value → Prop} {w W : World} {k : Nat} {l : List α} {v : Value} (hF : iU F) (h : dw F k W (xq w W) l v) : dw F k W (dW w W) l v := by
 have h1 : ∀ b, xq w W b → dW w W b := fun b hb => ⟨by have := hb.1; omega, hb.2⟩
 exact h.imp h1 (fun _ _ => rfl) fun _ _ hy => hF _ _ _ _ _ _ h1 (fun _ _ => rfl) hy
end Go.Proofs.YtmepaeahchiglaaGreatDoor
