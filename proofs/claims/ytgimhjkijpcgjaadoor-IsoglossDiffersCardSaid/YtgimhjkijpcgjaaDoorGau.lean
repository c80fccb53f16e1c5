/-
  layer 36: the reference's New: the square's rows. Conditions: none.
-/
import Derived.Test.YtgimhjkijpcgjaaDoorGat
import Derived.Test.YtgimhjkijpcgjaaDoorGar
import Derived.Test.YtgimhjkijpcgjaaDoorGam
import Derived.Test.YtgimhjkijpcgjaaDoorGas
import Derived.Test.YtgimhjkijpcgjaaDoorPtRq
import Derived.Test.YtgimhjkijpcgjaaDoorGal
namespace Go.Proofs.YtgimhjkijpcgjaaDoor
open Go.RowKit Go.Lib

noncomputable def rnBody5 : Code := loopAt Tryd.f43 4
set_option linter.unusedSimpArgs false in
set_option linter.unusedVariables false in
set_option maxRecDepth 40000 in
set_option maxHeartbeats 8000000 in
theorem rn_build (Q0 : Exit → Act → World → Prop) (w W0 : World) (base g n : Nat) (vN vR vD0 : Value) (us0 : Nat → Nat) (names : List ByteArray) (roads : List Rd)
    (c0 c1 c2 c3 c4 c5 c6 c7 c9 c10 c11 c14 c15 c16 c17 c18 c19 c20 c21 c22 c23 c24 c25 c26 c27 c28 c29 c30 c31 c32 c33 c34 c35 c36 c37 c38 c39 c40 c41 c42 c43 c44 c45 c46 c47 c48 c49 c50 c51 c52 c53 c54 c55 c56 c57 c58 c59 c60 c61 c62 c63 c64 c65 c66 c67 c68 c69 c70 c71 c72 c73 c74 c75 c76 c77 c78 c79 c80 c81 c82 c83 c84 c85 c86 c87 c88 c89 c90 c91 c92 c93 c94 c95 c96 c97 c98 c99 c100 c101 c102 c103 c104 c105 c106 c107 c108 c109 c110 c111 c112 c113 c114 c115 c116 c117 c118 c119 c120 c121 c122 c123 c124 c125 c126 c127 c128 c129 c130 c131 c132 c133 c134 c135 c136 c137 c138 c139 c140 c141 c142 c143 c144 c145 c146 c147 c148 c149 c150 c151 c152 c153 c154 c155 c156 c157 c158 c159 c160 c161 c162 c163 c164 c165 c166 c167 c168 c169 c170 c171 c172 c173 c174 c175 c176 c177 c178 c179 c180 c181 c182 c183 c184 c185 c186 c187 c188 c189 c190 c191 c192 c193 c194 c195 c196 c197 c198 c199 c200 c201 c202 c203 c204 c205 c206 c207 c208 c209 c210 c211 c212 c213 c214 c215 c216 c217 c218 c219 c220 c221 c222 c223 c224 c225 c226 c227 c228 c229 c230 c231 c232 c233 c234 c235 c236 c237 c238 c239 c240 c241 c242 c243 c244 c245 c246 c247 c248 c249 c250 c251 c252 c253 c254 c255 c256 c257 c258 c259 c260 c261 c262 c263 c264 c265 c266 c267 c268 c269 c270 c271 c272 c273 c274 c275 c276 c277 c278 c279 c280 c281 c282 c283 c284 c285 c286 c287 c288 c289 c290 c291 c292 c293 c294 c295 c296 c297 c298 c299 c300 c301 c302 c303 c304 c305 c306 c307 c308 c309 c310 c311 c312 c313 c314 c315 c316 c317 c318 c319 c320 c321 c322 c323 c324 : Value)
    (hn128 : n ≤ 128) (hM : RefK w base W0 g vN vR vD0 names roads n 0 us0) (hbase : w.heap.size ≤ base) (hb0 : base ≤ W0.heap.size)
    (hexit : ∀ (d13 d14 d15 d151 d152 d153 d154 d155 d156 d157 d158 d159 d160 d161 d162 d163 d164 d165 d166 d167 d168 d169 d170 d171 d172 d173 d174 d175 d176 d177 d178 : Value) (vD : Value) (us : Nat → Nat) (wr : World), RefK w base wr g vN vR vD names roads n n us → Q0 (.exit 8) ⟨List.toArray (c0 :: c1 :: c2 :: c3 :: c4 :: c5 :: c6 :: c7 :: .int .i64 (n : Nat) :: c9 :: c10 :: c11 :: .pointer (some ⟨g, 0, none⟩) :: d13 :: d14 :: d15 :: c16 :: c17 :: c18 :: c19 :: c20 :: c21 :: c22 :: c23 :: c24 :: c25 :: c26 :: c27 :: c28 :: c29 :: c30 :: c31 :: c32 :: c33 :: c34 :: c35 :: c36 :: c37 :: c38 :: c39 :: c40 :: c41 :: c42 :: c43 :: c44 :: c45 :: c46 :: c47 :: c48 :: c49 :: c50 :: c51 :: c52 :: c53 :: c54 :: c55 :: c56 :: c57 :: c58 :: c59 :: c60 :: c61 :: c62 :: c63 :: c64 :: c65 :: c66 :: c67 :: c68 :: c69 :: c70 :: c71 :: c72 :: c73 :: c74 :: c75 :: c76 :: c77 :: c78 :: c79 :: c80 :: c81 :: c82 :: c83 :: c84 :: c85 :: c86 :: c87 :: c88 :: c89 :: c90 :: c91 :: c92 :: c93 :: c94 :: c95 :: c96 :: c97 :: c98 :: c99 :: c100 :: c101 :: c102 :: c103 :: c104 :: c105 :: c106 :: c107 :: c108 :: c109 :: c110 :: c111 :: c112 :: c113 :: c114 :: c115 :: c116 :: c117 :: c118 :: c119 :: c120 :: c121 :: c122 :: c123 :: c124 :: c125 :: c126 :: c127 :: c128 :: c129 :: c130 :: c131 :: c132 :: c133 :: c134 :: c135 :: c136 :: c137 :: c138 :: c139 :: c140 :: c141 :: c142 :: c143 :: c144 :: c145 :: c146 :: c147 :: c148 :: c149 :: c150 :: d151 :: d152 :: d153 :: d154 :: d155 :: d156 :: d157 :: d158 :: d159 :: d160 :: d161 :: d162 :: d163 :: d164 :: d165 :: d166 :: d167 :: d168 :: d169 :: d170 :: d171 :: d172 :: d173 :: d174 :: d175 :: d176 :: d177 :: d178 :: c179 :: c180 :: c181 :: c182 :: c183 :: c184 :: c185 :: c186 :: c187 :: c188 :: c189 :: c190 :: c191 :: c192 :: c193 :: c194 :: c195 :: c196 :: c197 :: c198 :: c199 :: c200 :: c201 :: c202 :: c203 :: c204 :: c205 :: c206 :: c207 :: c208 :: c209 :: c210 :: c211 :: c212 :: c213 :: c214 :: c215 :: c216 :: c217 :: c218 :: c219 :: c220 :: c221 :: c222 :: c223 :: c224 :: c225 :: c226 :: c227 :: c228 :: c229 :: c230 :: c231 :: c232 :: c233 :: c234 :: c235 :: c236 :: c237 :: c238 :: c239 :: c240 :: c241 :: c242 :: c243 :: c244 :: c245 :: c246 :: c247 :: c248 :: c249 :: c250 :: c251 :: c252 :: c253 :: c254 :: c255 :: c256 :: c257 :: c258 :: c259 :: c260 :: c261 :: c262 :: c263 :: c264 :: c265 :: c266 :: c267 :: c268 :: c269 :: c270 :: c271 :: c272 :: c273 :: c274 :: c275 :: c276 :: c277 :: c278 :: c279 :: c280 :: c281 :: c282 :: c283 :: c284 :: c285 :: c286 :: c287 :: c288 :: c289 :: c290 :: c291 :: c292 :: c293 :: c294 :: c295 :: c296 :: c297 :: c298 :: c299 :: c300 :: c301 :: c302 :: c303 :: c304 :: c305 :: c306 :: c307 :: c308 :: c309 :: c310 :: c311 :: c312 :: c313 :: c314 :: c315 :: c316 :: c317 :: c318 :: c319 :: c320 :: c321 :: c322 :: c323 :: c324 :: []), []⟩ wr) :
    Code.wp Tryd.prog (.loop rnBody5) Q0 ⟨List.toArray (c0 :: c1 :: c2 :: c3 :: c4 :: c5 :: c6 :: c7 :: .int .i64 (n : Nat) :: c9 :: c10 :: c11 :: .pointer (some ⟨g, 0, none⟩) :: .int .i64 0 :: c14 :: c15 :: c16 :: c17 :: c18 :: c19 :: c20 :: c21 :: c22 :: c23 :: c24 :: c25 :: c26 :: c27 :: c28 :: c29 :: c30 :: c31 :: c32 :: c33 :: c34 :: c35 :: c36 :: c37 :: c38 :: c39 :: c40 :: c41 :: c42 :: c43 :: c44 :: c45 :: c46 :: c47 :: c48 :: c49 :: c50 :: c51 :: c52 :: c53 :: c54 :: c55 :: c56 :: c57 :: c58 :: c59 :: c60 :: c61 :: c62 :: c63 :: c64 :: c65 :: c66 :: c67 :: c68 :: c69 :: c70 :: c71 :: c72 :: c73 :: c74 :: c75 :: c76 :: c77 :: c78 :: c79 :: c80 :: c81 :: c82 :: c83 :: c84 :: c85 :: c86 :: c87 :: c88 :: c89 :: c90 :: c91 :: c92 :: c93 :: c94 :: c95 :: c96 :: c97 :: c98 :: c99 :: c100 :: c101 :: c102 :: c103 :: c104 :: c105 :: c106 :: c107 :: c108 :: c109 :: c110 :: c111 :: c112 :: c113 :: c114 :: c115 :: c116 :: c117 :: c118 :: c119 :: c120 :: c121 :: c122 :: c123 :: c124 :: c125 :: c126 :: c127 :: c128 :: c129 :: c130 :: c131 :: c132 :: c133 :: c134 :: c135 :: c136 :: c137 :: c138 :: c139 :: c140 :: c141 :: c142 :: c143 :: c144 :: c145 :: c146 :: c147 :: c148 :: c149 :: c150 :: c151 :: c152 :: c153 :: c154 :: c155 :: c156 :: c157 :: c158 :: c159 :: c160 :: c161 :: c162 :: c163 :: c164 :: c165 :: c166 :: c167 :: c168 :: c169 :: c170 :: c171 :: c172 :: c173 :: c174 :: c175 :: c176 :: c177 :: c178 :: c179 :: c180 :: c181 :: c182 :: c183 :: c184 :: c185 :: c186 :: c187 :: c188 :: c189 :: c190 :: c191 :: c192 :: c193 :: c194 :: c195 :: c196 :: c197 :: c198 :: c199 :: c200 :: c201 :: c202 :: c203 :: c204 :: c205 :: c206 :: c207 :: c208 :: c209 :: c210 :: c211 :: c212 :: c213 :: c214 :: c215 :: c216 :: c217 :: c218 :: c219 :: c220 :: c221 :: c222 :: c223 :: c224 :: c225 :: c226 :: c227 :: c228 :: c229 :: c230 :: c231 :: c232 :: c233 :: c234 :: c235 :: c236 :: c237 :: c238 :: c239 :: c240 :: c241 :: c242 :: c243 :: c244 :: c245 :: c246 :: c247 :: c248 :: c249 :: c250 :: c251 :: c252 :: c253 :: c254 :: c255 :: c256 :: c257 :: c258 :: c259 :: c260 :: c261 :: c262 :: c263 :: c264 :: c265 :: c266 :: c267 :: c268 :: c269 :: c270 :: c271 :: c272 :: c273 :: c274 :: c275 :: c276 :: c277 :: c278 :: c279 :: c280 :: c281 :: c282 :: c283 :: c284 :: c285 :: c286 :: c287 :: c288 :: c289 :: c290 :: c291 :: c292 :: c293 :: c294 :: c295 :: c296 :: c297 :: c298 :: c299 :: c300 :: c301 :: c302 :: c303 :: c304 :: c305 :: c306 :: c307 :: c308 :: c309 :: c310 :: c311 :: c312 :: c313 :: c314 :: c315 :: c316 :: c317 :: c318 :: c319 :: c320 :: c321 :: c322 :: c323 :: c324 :: []), []⟩ W0 := by
  unfold rnBody5
  conv => arg 2; arg 1; whnf
  have hmk := fun W => run_make_row' (P := Tryd.prog) 113 2 (.int .i64 0) 8 Tryd.underlying113 (by kernel_rfl) rfl .i64 .i64 n (by omega) (by omega) W
  obtain ⟨i0, hi, hz0, hz1, hz2⟩ := info_parts (show (Tryd.prog.info? 113).map (fun i => (i.zero, i.size, i.bytes)) = some (some (.slice none 0 0), 1, 24) by kernel_rfl)
  have HM0 := Lib.hid hM; have HEX := Lib.hid hexit; have HMK := Lib.hid hmk; have HB0 := Lib.hid hb0
  clear hM hexit hmk hb0
  go_loopw [13] (fun i wr => ∃ (k : Nat) (vD : Value) (us : Nat → Nat), k ≤ n ∧ i = .int .i64 k ∧ base ≤ wr.heap.size ∧ RefK w base wr g vN vR vD names roads n k us) (fun i _ => n - (intOf i).toNat)
  case atStart => exact ⟨0, _, _, by omega, rfl, HB0.out, HM0.out⟩
  case round =>
    obtain ⟨k, vD, us, hk, rfl, hbw, hM⟩ := hrel
    obtain ⟨W1, rfl⟩ : ∃ W1 : World, W1 = wr := ⟨_, rfl⟩
    have HM := Lib.hid hM
    clear hM HM0 HB0
    by_cases hlt : k < n
    · have hkI : (k : Int) < (n : Int) := by omega
      have hmk := HMK.out W1
      have hq0 := Blk.new W1 2 (rowA n (rowF k 0)).toArray
      have hbl0 : Below W1.heap.size W1 (W1.alloc (.cells (rowA n (rowF k 0)).toArray 2)) := (Below.refl _ W1).alloc (Nat.le_refl _) _
      rw [madeCells_zero, rowF_zero k n] at hmk
      have HQ0 := Lib.hid hq0; have HBL0 := Lib.hid hbl0
      clear hq0 hbl0
      go_wp2
      clear hmk
      go_loopw [15] (fun i wx => ∃ j : Nat, j ≤ n ∧ i = .int .i64 j ∧ Blk wx W1.heap.size 2 (rowA n (rowF k j)).toArray ∧ Below W1.heap.size W1 wx) (fun i _ => n - (intOf i).toNat)
      case atStart => exact ⟨0, by omega, rfl, HQ0.out, HBL0.out⟩
      case round =>
        obtain ⟨j, hj, rfl, hq, hbl⟩ := hrel
        have HQ := Lib.hid hq; have HBL := Lib.hid hbl
        clear HQ0 HBL0
        by_cases hltj : j < n
        · have hjI : (j : Int) < (n : Int) := by omega
          by_cases e : j = k
          · have eI : (j : Int) = (k : Int) := by omega
            have hs := rowF_skip (i := k) e
            have hq2 := HQ.out
            rw [hs] at hq2
            have HQ2 := Lib.hid hq2
            subst e
            clear hq hbl hs hq2
            go_wp2
            go_roundw
            case rel => exact ⟨j + 1, by omega, by go_num, HQ2.out, HBL.out⟩
            case measure => simp [intOf]; omega
          · have eI : ¬ (j : Int) = (k : Int) := by omega
            have c0 := (Blk.cell hq j).trans (rowA_get (rowF k j) hltj)
            have hzf := hq.frozen j
            have hq2 := hq.set_ j (.int .i64 (-1))
            rw [rowA_set (rowF k j) hltj, rowF_set e] at hq2
            have hbl2 := hbl.setCell (p := ⟨W1.heap.size, j, none⟩) (Nat.le_refl _) (.int .i64 (-1))
            have HQ2 := Lib.hid hq2; have HBL2 := Lib.hid hbl2
            clear hq hbl hq2 hbl2
            go_wp2
            go_roundw
            case rel => exact ⟨j + 1, by omega, by go_num, HQ2.out, HBL2.out⟩
            case measure => simp [intOf]; omega
        · obtain rfl : j = n := by omega
          have hq2 := hq
          rw [rowF_end k j] at hq2
          have hM1 := HM.out.later hbl
          have hqne : ∀ i, i < k → us i ≠ W1.heap.size := fun i hi e => by have := HM.out.lt i hi; omega
          have HQ2 := Lib.hid hq2; have HM1 := Lib.hid hM1; have HQNE := Lib.hid hqne
          obtain ⟨AD, cD, rfl, _, _⟩ := ownsRow_form hM1.sq.own
          have c0 := hM1.blk.cell 3
          simp only [List.getElem?_toArray, List.getElem?_cons_zero, List.getElem?_cons_succ] at c0
          have hsz := hbl.size
          have hM2 := hM1.later ((Below.refl _ wr).alloc (Nat.le_refl _) (.cells #[.slice (some ⟨W1.heap.size, 0, none⟩) j j] 113))
          have HM2 := Lib.hid hM2
          have hrn := reads_new wr 113 [.slice (some ⟨W1.heap.size, 0, none⟩) j j]
          have HRN := Lib.hid hrn
          clear hq hbl hq2 hM1 hqne hM2 hrn
          go_wp2_with (at_builtin; refine wpList_append_any _ rfl _ _ 120 rfl base 113 i0 (.slice none 0 0) 1 24 Tryd.underlying120 hi hz0 hz1 hz2 rfl (by decide) _ _ _ rfl HM2.out.sq.own _ _ _ _ [.slice (some ⟨W1.heap.size, 0, none⟩) j j] rfl HRN.out (by simp [Value.oneCell']) (by unfold maxLen; omega) (by omega) (by simp; omega) ?_; intro v' w3 hown' hgrow hx; clear hx; obtain ⟨A7, c7, rfl, _, _⟩ := ownsRow_form hown'; have k3 := HM2.out.blk.grown hgrow (fun e => own_blk_ne HM2.out.sq.own HM2.out.blk (by decide) e.symm); have c3 := k3.cell 3; have hzf := k3.frozen 3; simp only [List.getElem?_toArray, List.getElem?_cons_zero, List.getElem?_cons_succ] at c3; have HG := Lib.hid hgrow; have HO := Lib.hid hown'; clear hgrow hown' k3 c0)
          have hpush := HM2.out.push hbase (HQ2.out.alloc _) (by omega) HQNE.out HG.out (by simpa using HO.out)
          have HP := Lib.hid hpush
          have hsz2 : base ≤ w3.heap.size := by have := HG.out.size; simp at this; omega
          have hsz3 : w3.heap.size ≤ (w3.setCell ⟨g, 3, none⟩ (.slice A7 (k + 1) c7)).heap.size := (grown_setCell w3 ⟨g, 3, none⟩ (.slice A7 (k + 1) c7)).size
          clear hpush c3 hzf
          go_roundw
          case rel => exact ⟨k + 1, _, _, by omega, by go_num, by omega, HP.out⟩
          case measure => simp [intOf]; omega
    · obtain rfl : k = n := by omega
      go_wp2
      exact HEX.out _ _ _ _ _ _ _ _ _ _ _ _ _ _ _ _ _ _ _ _ _ _ _ _ _ _ _ _ _ _ _ _ _ _ HM.out
end Go.Proofs.YtgimhjkijpcgjaaDoor
namespace Go.Proofs.YtgimhjkijpcgjaaDoor
open Go.RowKit Go.Lib

/-- What the reference's New hands back. -/
def RefPost (w : World) (names : List ByteArray) (roads : List Rd) (e : Ending) (w' : World) : Prop :=
  (newE names roads ≠ 0 → e = .returned (.tuple #[.pointer none, .int .i64 (newE names roads)])) ∧
  (newE names roads = 0 → ∃ g, e = .returned (.tuple #[.pointer (some ⟨g, 0, none⟩), .int .i64 0]) ∧ RefM w' g (newM names roads) (distM (newM names roads))) ∧ Below w.heap.size w w'
theorem refPost_bad {w w' : World} {names : List ByteArray} {roads : List Rd} {v : Int} (hv : newE names roads = v) (h0 : v ≠ 0) (hb : Below w.heap.size w w') : RefPost w names roads (.returned (.tuple #[.pointer none, .int .i64 v])) w' :=
  ⟨fun _ => by rw [hv], fun h => absurd (hv.symm.trans h) h0, hb⟩
theorem refPost_good {w wr : World} {base g : Nat} {vN vR vD : Value} {us : Nat → Nat} {names : List ByteArray} {roads : List Rd} (hE : newE names roads = 0) {n : Nat} (hn : names.length = n) (h : RefW w base wr g vN vR vD names roads n us (floydD (roadsD roads) n)) :
    RefPost w names roads (.returned (.tuple #[.pointer (some ⟨g, 0, none⟩), .int .i64 0])) wr := by
  subst hn
  refine ⟨fun h0 => absurd hE h0, fun _ => ⟨g, rfl, base, vN, vR, vD, us, h.blk, h.nm, h.rd, h.sq.congr fun i x _ _ => floyd_end hE i x⟩, h.below⟩
set_option linter.unusedSimpArgs false in
set_option linter.unusedVariables false in
set_option maxRecDepth 40000 in
set_option maxHeartbeats 100000000 in
theorem refnew_any (A B : Option Addr) (n c m d : Nat) (names : List ByteArray) (roads : List Rd) (w : World) (hN : ReadS w w.heap.size A n names) (hR : Reads w w.heap.size 3 B m (roads.flatMap roadV)) (hs : ∀ s ∈ names, s.size ≤ maxLen) :
    Calls Tryd.prog 43 #[.slice A n c, .slice B m d] w (RefPost w names roads) := by
  have hnl := hN.len
  have hrl : roads.length = m := by
    have := hR.1
    rw [flatMap_len roadV 3 (fun _ => rfl)] at this; omega
  by_cases hbig : 128 < n
  · have hE : newE names roads = 12 := by unfold newE; rw [if_pos (by omega)]
    have HE := Lib.hid hE
    clear hE hN hR hs hnl hrl
    go_enter Tryd.func43, Tryd.ntmps43
    go_wp2
    go_ret2
    exact refPost_bad HE.out (by decide) (Below.refl _ _)
  by_cases hbig2 : 512 < m
  · have hE : newE names roads = 12 := by unfold newE; rw [if_pos (by omega)]
    have HE := Lib.hid hE
    have hbd : decide (128 < (n : Int)) = false := decide_eq_false (by omega)
    clear hE hN hR hs hnl hrl
    go_enter Tryd.func43, Tryd.ntmps43
    go_wp2
    go_ret2
    exact refPost_bad HE.out (by decide) (Below.refl _ _)
  have hE : newE names roads = if namesE [] names = 0 then roadsE n [] roads else namesE [] names := by unfold newE; rw [if_neg (by omega), hnl]
  have hn128 : n ≤ 128 := by omega
  have hm512 : m ≤ 512 := by omega
  have HE := Lib.hid hE; have HN := Lib.hid hN; have HR := Lib.hid hR; have HS := Lib.hid hs; have HNL := Lib.hid hnl; have HRL := Lib.hid hrl
  have hbd : decide (128 < (n : Int)) = false := decide_eq_false (by omega)
  have hbd2 : decide (512 < (m : Int)) = false := decide_eq_false (by omega)
  obtain ⟨i1, hi1, hz10, hz11, hz12⟩ := info_parts (show (Tryd.prog.info? 9).map (fun i => (i.zero, i.size, i.bytes)) = some (some (.string ByteArray.empty), 1, 16) by kernel_rfl)
  obtain ⟨i3, hi3, hz30, hz31, hz32⟩ := info_parts (show (Tryd.prog.info? 71).map (fun i => (i.zero, i.size, i.bytes)) = some (some (.agg #[.int .i64 0, .int .i64 0, .int .i64 0]), 3, 24) by kernel_rfl)
  have HONE1 := Lib.hid (show ∀ u ∈ strs names, u.oneCell' = true from fun u hu => by obtain ⟨s, _, rfl⟩ := List.mem_map.1 hu; rfl)
  have HONE3 := Lib.hid (show ∀ u ∈ roads.flatMap roadV, u.oneCell' = true from fun u hu => by
    obtain ⟨r, _, hr⟩ := List.mem_flatMap.1 hu
    simp only [roadV, List.mem_cons, List.not_mem_nil, or_false] at hr
    rcases hr with rfl | rfl | rfl <;> rfl)
  clear hE hN hR hs hnl hrl hbig hbig2
  go_enter Tryd.func43, Tryd.ntmps43
  go_wp2
  refine rn_names _ w w n c A names _ _ _ _ _ _ _ _ _ _ _ _ _ _ _ _ _ _ _ _ _ _ _ _ _ _ _ _ _ _ _ _ _ _ _ _ _ _ _ _ _ _ _ _ _ _ _ _ _ _ _ _ _ _ _ _ _ _ _ _ _ _ _ _ _ _ _ _ _ _ _ _ _ _ _ _ _ _ _ _ _ _ _ _ _ _ _ _ _ _ _ _ _ _ _ _ _ _ _ _ _ _ _ _ _ _ _ _ _ _ _ _ _ _ _ _ _ _ _ _ _ _ _ _ _ _ _ _ _ _ _ _ _ _ _ _ _ _ _ _ _ _ _ _ _ _ _ _ _ _ _ _ _ _ _ _ _ _ _ _ _ _ _ _ _ _ _ _ _ _ _ _ _ _ _ _ _ _ _ _ _ _ _ _ _ _ _ _ _ _ _ _ _ _ _ _ _ _ _ _ _ _ _ _ _ _ _ _ _ _ _ _ _ _ _ _ _ _ _ _ _ _ _ _ _ _ _ _ _ _ _ _ _ _ _ _ _ _ _ _ _ _ _ _ _ _ _ _ _ _ _ _ _ _ _ _ _ _ _ _ _ _ _ _ _ _ _ _ _ _ _ _ _ _ _ _ _ _ _ _ _ _ _ _ _ _ _ _ _ _ _ _ _ _ _ _ _ _ _ _ _ _ _ _ _ _ _ _ _ _ _ _ _ _ _ _ _ _ _ _ _ _ _ HN.out HS.out hn128 (Below.refl _ _) ?_ ?_
  · intro d6 d7 d29 d30 d31 d32 d33 d34 d35 d36 d37 d38 d39 d40 d41 d42 d43 d44 d45 d46 d47 d48 d49 d50 d51 d52 d53 d54 e wr hb he hz
    go_ret2
    exact refPost_bad (by rw [HE.out, if_neg (by rw [hz]; exact he), hz]) he hb
  intro d4 d5 d6 d7 d29 d30 d31 d32 d33 d34 d35 d36 d37 d38 d39 d40 d41 d42 d43 d44 d45 d46 d47 d48 d49 d50 d51 d52 d53 d54 wa hba hza
  have HBA := Lib.hid hba; have HZA := Lib.hid hza
  clear hba hza hbd hbd2
  go_wp2
  refine rn_roads _ w wa n m d B roads _ _ _ _ _ _ _ _ _ _ _ _ _ _ _ _ _ _ _ _ _ _ _ _ _ _ _ _ _ _ _ _ _ _ _ _ _ _ _ _ _ _ _ _ _ _ _ _ _ _ _ _ _ _ _ _ _ _ _ _ _ _ _ _ _ _ _ _ _ _ _ _ _ _ _ _ _ _ _ _ _ _ _ _ _ _ _ _ _ _ _ _ _ _ _ _ _ _ _ _ _ _ _ _ _ _ _ _ _ _ _ _ _ _ _ _ _ _ _ _ _ _ _ _ _ _ _ _ _ _ _ _ _ _ _ _ _ _ _ _ _ _ _ _ _ _ _ _ _ _ _ _ _ _ _ _ _ _ _ _ _ _ _ _ _ _ _ _ _ _ _ _ _ _ _ _ _ _ _ _ _ _ _ _ _ _ _ _ _ _ _ _ _ _ _ _ _ _ _ _ _ _ _ _ _ _ _ _ _ _ _ _ _ _ _ _ _ _ _ _ _ _ _ _ _ _ _ _ _ _ _ _ _ _ _ _ _ _ _ _ _ _ _ _ _ _ _ _ _ _ _ _ _ _ _ _ _ _ _ _ _ _ _ _ _ _ _ _ _ _ _ _ _ _ _ _ _ _ _ _ _ _ _ _ _ _ _ _ _ _ _ _ _ _ _ _ _ _ _ _ _ _ _ _ _ _ _ _ _ _ _ _ _ _ _ _ _ _ _ _ _ _ HR.out HRL.out hm512 hn128 HBA.out ?_ ?_
  · intro d9 d10 d11 d57 d58 d59 d60 d61 d62 d63 d64 d65 d66 d67 d68 d69 d70 d71 d72 d73 d74 d75 d76 d77 d78 d79 d80 d81 d82 d83 d84 d85 d86 d87 d88 d89 d90 d91 d92 d93 d94 d95 d96 d97 d98 d99 d100 d101 d102 d103 d104 d105 d106 d107 d108 d109 d110 d111 d112 d113 d114 d115 d116 d117 d118 d119 d120 d121 d122 d123 d124 d125 d126 d127 d128 d129 d130 d131 d132 d133 d134 d135 d136 d137 d138 d139 d140 d141 d142 e wr hb he hz
    go_ret2
    exact refPost_bad (by rw [HE.out, if_pos HZA.out, hz]) he hb
  intro d4 d5 d9 d10 d11 d57 d58 d59 d60 d61 d62 d63 d64 d65 d66 d67 d68 d69 d70 d71 d72 d73 d74 d75 d76 d77 d78 d79 d80 d81 d82 d83 d84 d85 d86 d87 d88 d89 d90 d91 d92 d93 d94 d95 d96 d97 d98 d99 d100 d101 d102 d103 d104 d105 d106 d107 d108 d109 d110 d111 d112 d113 d114 d115 d116 d117 d118 d119 d120 d121 d122 d123 d124 d125 d126 d127 d128 d129 d130 d131 d132 d133 d134 d135 d136 d137 d138 d139 d140 d141 d142 wb hbb hzb
  have hEz : newE names roads = 0 := by rw [HE.out, if_pos HZA.out, hzb]
  have HBB := Lib.hid hbb; have HEZ := Lib.hid hEz
  have HRN := Lib.hid ((Reads.below HN.out hbb))
  clear hbb hzb hEz
  have ho1 := own_empty1 wb 9
  have hr1 := (HRN.out.more HBB.out.size).alloc (Nat.le_refl _) (.cells #[] 9)
  have hbsz := HBB.out.size
  go_wp2_with (first
    | (at_builtin; refine wpList_append_any _ rfl _ _ 22 rfl wb.heap.size 9 i1 (.string ByteArray.empty) 1 16 Tryd.underlying22 hi1 hz10 hz11 hz12 rfl (by decide) _ _ _ rfl ho1 wb.heap.size _ _ _ (strs names) rfl hr1 HONE1.out (by unfold maxLen; omega) (by omega) (by simp) ?_; intro v1 w5 hown1 hgrow1 hx1; clear hx1; rw [Nat.zero_add, List.nil_append] at hown1; obtain ⟨A5, c5, rfl, _, _⟩ := ownsRow_form hown1; have hb5 : Below wb.heap.size wb w5 := ((Below.refl _ wb).alloc (Nat.le_refl _) _).grown hgrow1 (by simp) (fun g hg => (ho1.lt g hg).1); have ho2 := own_mono (own_empty3 w5 71) hb5.size; have hr2 := ((HR.out.below (HBB.out.trans (hb5.mono HBB.out.size))).more (show w.heap.size ≤ w5.heap.size by have := hb5.size; omega)).alloc (Nat.le_refl _) (.cells #[] 71); have HO1 := Lib.hid hown1; clear hgrow1 hown1 hr1 ho1)
    | (at_builtin; refine wpList_append_any _ rfl _ _ 23 rfl wb.heap.size 71 i3 (.agg #[.int .i64 0, .int .i64 0, .int .i64 0]) 3 24 Tryd.underlying23 hi3 hz30 hz31 hz32 rfl (by decide) _ _ _ rfl ho2 w5.heap.size _ _ _ (roads.flatMap roadV) rfl hr2 HONE3.out (by unfold maxLen; omega) (by omega) (by have := hb5.size; simp; omega) ?_; intro v2 w6 hown2 hgrow2 hx2; clear hx2; rw [Nat.zero_add, List.nil_append] at hown2; obtain ⟨A6, c6, rfl, _, _⟩ := ownsRow_form hown2; have HG2 := Lib.hid (show (w5.alloc (.cells #[] 71)).grownBy w6 (some w5.heap.size) from hgrow2); have HO2 := Lib.hid hown2; clear hgrow2 hown2 hr2 ho2))
  have hb56 : Below w5.heap.size w5 w6 := ((Below.refl _ w5).alloc (Nat.le_refl _) _).grown HG2.out (by simp) (fun g hg => by injection hg with hg; omega)
  have hb6 : Below wb.heap.size wb w6 := hb5.trans (hb56.mono hb5.size)
  have own1 := own_below HO1.out hb56
  have hs6 := hb6.size
  obtain ⟨vN, hvN⟩ : ∃ vN, Value.slice A5 n c5 = vN := ⟨_, rfl⟩
  obtain ⟨vR, hvR⟩ : ∃ vR, Value.slice A6 m c6 = vR := ⟨_, rfl⟩
  have own2 := HO2.out
  rw [hvN] at own1 ⊢
  rw [hvR] at own2 ⊢
  have hK : RefK w wb.heap.size (w6.alloc (.cells #[.bool true, vN, vR, .slice none 0 0] 122)) w6.heap.size vN vR (.slice none 0 0) names roads n 0 (fun _ => 0) :=
    ⟨Blk.new w6 _ _, by rw [HNL.out]; exact own_below own1 ((Below.refl _ _).alloc (Nat.le_refl _) _), by rw [HRL.out]; exact own_below own2 ((Below.refl _ _).alloc (Nat.le_refl _) _), (SqM.start _ _ _).congr (fun i x hi _ => absurd hi (Nat.not_lt_zero i)), (HBB.out.trans (hb6.mono HBB.out.size)).alloc (by omega) _, by omega, fun i hi => absurd hi (Nat.not_lt_zero i)⟩
  have HK := Lib.hid hK
  clear hK own1 own2 hb56 hb6 hb5 hvN hvR
  refine rn_build _ w (w6.alloc (.cells #[.bool true, vN, vR, .slice none 0 0] 122)) wb.heap.size w6.heap.size n vN vR (.slice none 0 0) (fun _ => 0) names roads _ _ _ _ _ _ _ _ _ _ _ _ _ _ _ _ _ _ _ _ _ _ _ _ _ _ _ _ _ _ _ _ _ _ _ _ _ _ _ _ _ _ _ _ _ _ _ _ _ _ _ _ _ _ _ _ _ _ _ _ _ _ _ _ _ _ _ _ _ _ _ _ _ _ _ _ _ _ _ _ _ _ _ _ _ _ _ _ _ _ _ _ _ _ _ _ _ _ _ _ _ _ _ _ _ _ _ _ _ _ _ _ _ _ _ _ _ _ _ _ _ _ _ _ _ _ _ _ _ _ _ _ _ _ _ _ _ _ _ _ _ _ _ _ _ _ _ _ _ _ _ _ _ _ _ _ _ _ _ _ _ _ _ _ _ _ _ _ _ _ _ _ _ _ _ _ _ _ _ _ _ _ _ _ _ _ _ _ _ _ _ _ _ _ _ _ _ _ _ _ _ _ _ _ _ _ _ _ _ _ _ _ _ _ _ _ _ _ _ _ _ _ _ _ _ _ _ _ _ _ _ _ _ _ _ _ _ _ _ _ _ _ _ _ _ _ _ _ _ _ _ _ _ _ _ _ _ _ _ _ _ _ _ _ _ _ _ _ _ _ _ _ _ _ _ _ _ _ _ _ _ _ _ _ _ _ _ _ _ _ _ _ _ _ _ _ _ _ _ _ _ _ _ _ _ _ _ _ _ _ _ _ _ _ _ _ _ _ _ _ _ _ hn128 HK.out hbsz (by simp; omega) ?_
  intro d13 d14 d15 d151 d152 d153 d154 d155 d156 d157 d158 d159 d160 d161 d162 d163 d164 d165 d166 d167 d168 d169 d170 d171 d172 d173 d174 d175 d176 d177 d178 vD us wc hKc
  have HC := Lib.hid hKc.full
  clear hKc
  go_wp2
  have hokr := (newE_zero HEZ.out).2.2.2.1
  rw [HNL.out] at hokr
  have HOKR := Lib.hid hokr
  clear hokr
  refine rn_set _ w wc wb.heap.size w6.heap.size n m d B vN vR vD us names roads _ _ _ _ _ _ _ _ _ _ _ _ _ _ _ _ _ _ _ _ _ _ _ _ _ _ _ _ _ _ _ _ _ _ _ _ _ _ _ _ _ _ _ _ _ _ _ _ _ _ _ _ _ _ _ _ _ _ _ _ _ _ _ _ _ _ _ _ _ _ _ _ _ _ _ _ _ _ _ _ _ _ _ _ _ _ _ _ _ _ _ _ _ _ _ _ _ _ _ _ _ _ _ _ _ _ _ _ _ _ _ _ _ _ _ _ _ _ _ _ _ _ _ _ _ _ _ _ _ _ _ _ _ _ _ _ _ _ _ _ _ _ _ _ _ _ _ _ _ _ _ _ _ _ _ _ _ _ _ _ _ _ _ _ _ _ _ _ _ _ _ _ _ _ _ _ _ _ _ _ _ _ _ _ _ _ _ _ _ _ _ _ _ _ _ _ _ _ _ _ _ _ _ _ _ _ _ _ _ _ _ _ _ _ _ _ _ _ _ _ _ _ _ _ _ _ _ _ _ _ _ _ _ _ _ _ _ _ _ _ _ _ _ _ _ _ _ _ _ _ _ _ _ _ _ _ _ _ _ _ _ _ _ _ _ _ _ _ _ _ _ _ _ _ _ _ _ _ _ _ _ _ _ _ _ _ _ _ _ _ _ _ _ _ _ _ _ _ _ _ _ _ _ _ _ _ _ _ _ _ _ _ _ _ _ _ _ _ _ _ _ _ HR.out HRL.out hm512 HOKR.out hn128 HC.out hbsz ?_
  intro d16 d179 d180 d181 d182 d183 d184 d185 d186 d187 d188 d189 d190 d191 d192 d193 d194 d195 d196 d197 d198 d199 d200 d201 d202 d203 d204 d205 d206 d207 d208 d209 d210 d211 d212 d213 d214 d215 d216 d217 d218 d219 d220 d221 d222 d223 d224 d225 d226 d227 d228 wd hMd
  have HD := Lib.hid hMd
  clear hMd
  go_wp2
  refine rn_floyd _ w wd wb.heap.size w6.heap.size n vN vR vD us names roads _ _ _ _ _ _ _ _ _ _ _ _ _ _ _ _ _ _ _ _ _ _ _ _ _ _ _ _ _ _ _ _ _ _ _ _ _ _ _ _ _ _ _ _ _ _ _ _ _ _ _ _ _ _ _ _ _ _ _ _ _ _ _ _ _ _ _ _ _ _ _ _ _ _ _ _ _ _ _ _ _ _ _ _ _ _ _ _ _ _ _ _ _ _ _ _ _ _ _ _ _ _ _ _ _ _ _ _ _ _ _ _ _ _ _ _ _ _ _ _ _ _ _ _ _ _ _ _ _ _ _ _ _ _ _ _ _ _ _ _ _ _ _ _ _ _ _ _ _ _ _ _ _ _ _ _ _ _ _ _ _ _ _ _ _ _ _ _ _ _ _ _ _ _ _ _ _ _ _ _ _ _ _ _ _ _ _ _ _ _ _ _ _ _ _ _ _ _ _ _ _ _ _ _ _ _ _ _ _ _ _ _ _ _ _ _ _ _ _ _ _ _ _ _ _ _ _ _ _ _ _ _ _ _ _ _ _ _ _ _ _ _ _ _ _ _ _ _ _ _ _ _ _ _ _ _ _ _ _ _ _ _ _ _ _ _ _ _ _ _ _ _ _ _ _ _ _ _ _ _ _ _ _ _ _ _ _ _ _ _ _ _ _ _ _ _ _ _ _ _ _ _ _ _ _ _ _ _ _ _ _ _ _ _ _ _ _ _ _ _ _ _ HEZ.out HNL.out HD.out hbsz ?_
  intro d17 d18 d19 d20 d229 d230 d231 d232 d233 d234 d235 d236 d237 d238 d239 d240 d241 d242 d243 d244 d245 d246 d247 d248 d249 d250 d251 d252 d253 d254 d255 d256 d257 d258 d259 d260 d261 d262 d263 d264 d265 d266 d267 d268 d269 d270 d271 d272 d273 d274 d275 d276 d277 d278 d279 d280 d281 d282 d283 d284 d285 d286 d287 d288 d289 d290 d291 d292 d293 d294 d295 d296 d297 d298 d299 d300 d301 d302 d303 d304 d305 d306 d307 d308 d309 d310 d311 d312 d313 d314 d315 d316 d317 d318 d319 d320 d321 d322 d323 we hMe
  have HE2 := Lib.hid hMe
  clear hMe
  go_wp2
  go_ret2
  exact refPost_good HEZ.out HNL.out HE2.out
end Go.Proofs.YtgimhjkijpcgjaaDoor
