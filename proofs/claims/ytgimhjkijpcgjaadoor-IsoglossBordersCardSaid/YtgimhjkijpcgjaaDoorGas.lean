/-
  layer 36: the reference's New: ways over the points up to k, in place. Conditions: the square in memory as the roads make it.
-/
import Derived.Test.YtgimhjkijpcgjaaDoorGar
import Derived.Test.YtgimhjkijpcgjaaDoorGam
import Derived.Deep.QuietTactic
import Derived.BigQuiet
import Derived.StillTailTactics
import Derived.Deep.DeepCutAuto
namespace Go.Proofs.YtgimhjkijpcgjaaDoor
open Go.RowKit Go.Lib

noncomputable def rnBody8 : Code := loopAt Tryd.f43 7
set_option linter.unusedSimpArgs false in
set_option linter.unusedVariables false in
set_option maxRecDepth 40000 in
set_option maxHeartbeats 8000000 in
theorem rn_floyd (Q0 : Exit → Act → World → Prop) (w W0 : World) (base g n : Nat) (vN vR vD : Value) (us : Nat → Nat) (names : List ByteArray) (roads : List Rd)
    (c0 c1 c2 c3 c4 c5 c6 c7 c9 c10 c11 c13 c14 c15 c16 c18 c19 c20 c21 c22 c23 c24 c25 c26 c27 c28 c29 c30 c31 c32 c33 c34 c35 c36 c37 c38 c39 c40 c41 c42 c43 c44 c45 c46 c47 c48 c49 c50 c51 c52 c53 c54 c55 c56 c57 c58 c59 c60 c61 c62 c63 c64 c65 c66 c67 c68 c69 c70 c71 c72 c73 c74 c75 c76 c77 c78 c79 c80 c81 c82 c83 c84 c85 c86 c87 c88 c89 c90 c91 c92 c93 c94 c95 c96 c97 c98 c99 c100 c101 c102 c103 c104 c105 c106 c107 c108 c109 c110 c111 c112 c113 c114 c115 c116 c117 c118 c119 c120 c121 c122 c123 c124 c125 c126 c127 c128 c129 c130 c131 c132 c133 c134 c135 c136 c137 c138 c139 c140 c141 c142 c143 c144 c145 c146 c147 c148 c149 c150 c151 c152 c153 c154 c155 c156 c157 c158 c159 c160 c161 c162 c163 c164 c165 c166 c167 c168 c169 c170 c171 c172 c173 c174 c175 c176 c177 c178 c179 c180 c181 c182 c183 c184 c185 c186 c187 c188 c189 c190 c191 c192 c193 c194 c195 c196 c197 c198 c199 c200 c201 c202 c203 c204 c205 c206 c207 c208 c209 c210 c211 c212 c213 c214 c215 c216 c217 c218 c219 c220 c221 c222 c223 c224 c225 c226 c227 c228 c229 c230 c231 c232 c233 c234 c235 c236 c237 c238 c239 c240 c241 c242 c243 c244 c245 c246 c247 c248 c249 c250 c251 c252 c253 c254 c255 c256 c257 c258 c259 c260 c261 c262 c263 c264 c265 c266 c267 c268 c269 c270 c271 c272 c273 c274 c275 c276 c277 c278 c279 c280 c281 c282 c283 c284 c285 c286 c287 c288 c289 c290 c291 c292 c293 c294 c295 c296 c297 c298 c299 c300 c301 c302 c303 c304 c305 c306 c307 c308 c309 c310 c311 c312 c313 c314 c315 c316 c317 c318 c319 c320 c321 c322 c323 c324 : Value)
    (hE : newE names roads = 0) (hn : names.length = n) (hM : RefW w base W0 g vN vR vD names roads n us (roadsD roads)) (hbase : w.heap.size ≤ base)
    (hexit : ∀ (d17 d18 d19 d20 d229 d230 d231 d232 d233 d234 d235 d236 d237 d238 d239 d240 d241 d242 d243 d244 d245 d246 d247 d248 d249 d250 d251 d252 d253 d254 d255 d256 d257 d258 d259 d260 d261 d262 d263 d264 d265 d266 d267 d268 d269 d270 d271 d272 d273 d274 d275 d276 d277 d278 d279 d280 d281 d282 d283 d284 d285 d286 d287 d288 d289 d290 d291 d292 d293 d294 d295 d296 d297 d298 d299 d300 d301 d302 d303 d304 d305 d306 d307 d308 d309 d310 d311 d312 d313 d314 d315 d316 d317 d318 d319 d320 d321 d322 d323 : Value) (wr : World), RefW w base wr g vN vR vD names roads n us (floydD (roadsD roads) n) → Q0 (.exit 14) ⟨List.toArray (c0 :: c1 :: c2 :: c3 :: c4 :: c5 :: c6 :: c7 :: .int .i64 (n : Nat) :: c9 :: c10 :: c11 :: .pointer (some ⟨g, 0, none⟩) :: c13 :: c14 :: c15 :: c16 :: d17 :: d18 :: d19 :: d20 :: c21 :: c22 :: c23 :: c24 :: c25 :: c26 :: c27 :: c28 :: c29 :: c30 :: c31 :: c32 :: c33 :: c34 :: c35 :: c36 :: c37 :: c38 :: c39 :: c40 :: c41 :: c42 :: c43 :: c44 :: c45 :: c46 :: c47 :: c48 :: c49 :: c50 :: c51 :: c52 :: c53 :: c54 :: c55 :: c56 :: c57 :: c58 :: c59 :: c60 :: c61 :: c62 :: c63 :: c64 :: c65 :: c66 :: c67 :: c68 :: c69 :: c70 :: c71 :: c72 :: c73 :: c74 :: c75 :: c76 :: c77 :: c78 :: c79 :: c80 :: c81 :: c82 :: c83 :: c84 :: c85 :: c86 :: c87 :: c88 :: c89 :: c90 :: c91 :: c92 :: c93 :: c94 :: c95 :: c96 :: c97 :: c98 :: c99 :: c100 :: c101 :: c102 :: c103 :: c104 :: c105 :: c106 :: c107 :: c108 :: c109 :: c110 :: c111 :: c112 :: c113 :: c114 :: c115 :: c116 :: c117 :: c118 :: c119 :: c120 :: c121 :: c122 :: c123 :: c124 :: c125 :: c126 :: c127 :: c128 :: c129 :: c130 :: c131 :: c132 :: c133 :: c134 :: c135 :: c136 :: c137 :: c138 :: c139 :: c140 :: c141 :: c142 :: c143 :: c144 :: c145 :: c146 :: c147 :: c148 :: c149 :: c150 :: c151 :: c152 :: c153 :: c154 :: c155 :: c156 :: c157 :: c158 :: c159 :: c160 :: c161 :: c162 :: c163 :: c164 :: c165 :: c166 :: c167 :: c168 :: c169 :: c170 :: c171 :: c172 :: c173 :: c174 :: c175 :: c176 :: c177 :: c178 :: c179 :: c180 :: c181 :: c182 :: c183 :: c184 :: c185 :: c186 :: c187 :: c188 :: c189 :: c190 :: c191 :: c192 :: c193 :: c194 :: c195 :: c196 :: c197 :: c198 :: c199 :: c200 :: c201 :: c202 :: c203 :: c204 :: c205 :: c206 :: c207 :: c208 :: c209 :: c210 :: c211 :: c212 :: c213 :: c214 :: c215 :: c216 :: c217 :: c218 :: c219 :: c220 :: c221 :: c222 :: c223 :: c224 :: c225 :: c226 :: c227 :: c228 :: d229 :: d230 :: d231 :: d232 :: d233 :: d234 :: d235 :: d236 :: d237 :: d238 :: d239 :: d240 :: d241 :: d242 :: d243 :: d244 :: d245 :: d246 :: d247 :: d248 :: d249 :: d250 :: d251 :: d252 :: d253 :: d254 :: d255 :: d256 :: d257 :: d258 :: d259 :: d260 :: d261 :: d262 :: d263 :: d264 :: d265 :: d266 :: d267 :: d268 :: d269 :: d270 :: d271 :: d272 :: d273 :: d274 :: d275 :: d276 :: d277 :: d278 :: d279 :: d280 :: d281 :: d282 :: d283 :: d284 :: d285 :: d286 :: d287 :: d288 :: d289 :: d290 :: d291 :: d292 :: d293 :: d294 :: d295 :: d296 :: d297 :: d298 :: d299 :: d300 :: d301 :: d302 :: d303 :: d304 :: d305 :: d306 :: d307 :: d308 :: d309 :: d310 :: d311 :: d312 :: d313 :: d314 :: d315 :: d316 :: d317 :: d318 :: d319 :: d320 :: d321 :: d322 :: d323 :: c324 :: []), []⟩ wr) :
    Code.wp Tryd.prog (.loop rnBody8) Q0 ⟨List.toArray (c0 :: c1 :: c2 :: c3 :: c4 :: c5 :: c6 :: c7 :: .int .i64 (n : Nat) :: c9 :: c10 :: c11 :: .pointer (some ⟨g, 0, none⟩) :: c13 :: c14 :: c15 :: c16 :: .int .i64 0 :: c18 :: c19 :: c20 :: c21 :: c22 :: c23 :: c24 :: c25 :: c26 :: c27 :: c28 :: c29 :: c30 :: c31 :: c32 :: c33 :: c34 :: c35 :: c36 :: c37 :: c38 :: c39 :: c40 :: c41 :: c42 :: c43 :: c44 :: c45 :: c46 :: c47 :: c48 :: c49 :: c50 :: c51 :: c52 :: c53 :: c54 :: c55 :: c56 :: c57 :: c58 :: c59 :: c60 :: c61 :: c62 :: c63 :: c64 :: c65 :: c66 :: c67 :: c68 :: c69 :: c70 :: c71 :: c72 :: c73 :: c74 :: c75 :: c76 :: c77 :: c78 :: c79 :: c80 :: c81 :: c82 :: c83 :: c84 :: c85 :: c86 :: c87 :: c88 :: c89 :: c90 :: c91 :: c92 :: c93 :: c94 :: c95 :: c96 :: c97 :: c98 :: c99 :: c100 :: c101 :: c102 :: c103 :: c104 :: c105 :: c106 :: c107 :: c108 :: c109 :: c110 :: c111 :: c112 :: c113 :: c114 :: c115 :: c116 :: c117 :: c118 :: c119 :: c120 :: c121 :: c122 :: c123 :: c124 :: c125 :: c126 :: c127 :: c128 :: c129 :: c130 :: c131 :: c132 :: c133 :: c134 :: c135 :: c136 :: c137 :: c138 :: c139 :: c140 :: c141 :: c142 :: c143 :: c144 :: c145 :: c146 :: c147 :: c148 :: c149 :: c150 :: c151 :: c152 :: c153 :: c154 :: c155 :: c156 :: c157 :: c158 :: c159 :: c160 :: c161 :: c162 :: c163 :: c164 :: c165 :: c166 :: c167 :: c168 :: c169 :: c170 :: c171 :: c172 :: c173 :: c174 :: c175 :: c176 :: c177 :: c178 :: c179 :: c180 :: c181 :: c182 :: c183 :: c184 :: c185 :: c186 :: c187 :: c188 :: c189 :: c190 :: c191 :: c192 :: c193 :: c194 :: c195 :: c196 :: c197 :: c198 :: c199 :: c200 :: c201 :: c202 :: c203 :: c204 :: c205 :: c206 :: c207 :: c208 :: c209 :: c210 :: c211 :: c212 :: c213 :: c214 :: c215 :: c216 :: c217 :: c218 :: c219 :: c220 :: c221 :: c222 :: c223 :: c224 :: c225 :: c226 :: c227 :: c228 :: c229 :: c230 :: c231 :: c232 :: c233 :: c234 :: c235 :: c236 :: c237 :: c238 :: c239 :: c240 :: c241 :: c242 :: c243 :: c244 :: c245 :: c246 :: c247 :: c248 :: c249 :: c250 :: c251 :: c252 :: c253 :: c254 :: c255 :: c256 :: c257 :: c258 :: c259 :: c260 :: c261 :: c262 :: c263 :: c264 :: c265 :: c266 :: c267 :: c268 :: c269 :: c270 :: c271 :: c272 :: c273 :: c274 :: c275 :: c276 :: c277 :: c278 :: c279 :: c280 :: c281 :: c282 :: c283 :: c284 :: c285 :: c286 :: c287 :: c288 :: c289 :: c290 :: c291 :: c292 :: c293 :: c294 :: c295 :: c296 :: c297 :: c298 :: c299 :: c300 :: c301 :: c302 :: c303 :: c304 :: c305 :: c306 :: c307 :: c308 :: c309 :: c310 :: c311 :: c312 :: c313 :: c314 :: c315 :: c316 :: c317 :: c318 :: c319 :: c320 :: c321 :: c322 :: c323 :: c324 :: []), []⟩ W0 := by
  unfold rnBody8
  conv => arg 2; arg 1; whnf
  have hn128 : n ≤ 128 := by have := (newE_zero hE).1; omega
  have hbd : ∀ k i v, i < n → -1 ≤ floydD (roadsD roads) k i v ∧ floydD (roadsD roads) k i v ≤ 137438953472 := fun k i v hi => floyd_bound hE k i v (by omega)
  have hself : ∀ k i, floydD (roadsD roads) k i i = 0 := fun k i => floyd_self hE k i
  have HM0 := Lib.hid hM; have HEX := Lib.hid hexit; have HBD := Lib.hid hbd; have HSELF := Lib.hid hself
  clear hM hexit hbd hself hE hn
  go_loopw [17] (fun i wr => ∃ k : Nat, k ≤ n ∧ i = .int .i64 k ∧ RefW w base wr g vN vR vD names roads n us (floydD (roadsD roads) k)) (fun i _ => n - (intOf i).toNat)
  case atStart => exact ⟨0, by omega, rfl, HM0.out⟩
  case round =>
    obtain ⟨k, hk, rfl, hM⟩ := hrel
    by_cases hlt : k < n
    · obtain ⟨qD, cD, rfl, _, _⟩ := hM.sq.form (by omega)
      have hkI : (k : Int) < (n : Int) := by omega
      obtain ⟨D, hD⟩ : ∃ D, floydD (roadsD roads) k = D := ⟨_, rfl⟩
      have hDb : ∀ i v, i < n → -1 ≤ D i v ∧ D i v ≤ 137438953472 := fun i v hi => hD ▸ HBD.out k i v hi
      have hDs : D k k = 0 := hD ▸ HSELF.out k k
      have hDn : floydD (roadsD roads) (k + 1) = fun i => better D k i := by rw [← hD]; rfl
      rw [hD] at hM
      have HDB := Lib.hid hDb; have HDS := Lib.hid hDs; have HDN := Lib.hid hDn
      have HM := Lib.hid (show RefW w base wr g vN vR (.slice (some ⟨qD, 0, none⟩) n cD) names roads n us (mixed D k 0 0) by rw [mixed_zero]; exact hM)
      clear hM hDb hDs hDn hD HM0
      go_wp2
      go_loopw [18] (fun i wr => ∃ i' : Nat, i' ≤ n ∧ i = .int .i64 i' ∧ RefW w base wr g vN vR (.slice (some ⟨qD, 0, none⟩) n cD) names roads n us (mixed D k i' 0)) (fun i _ => n - (intOf i).toNat)
      case atStart => exact ⟨0, by omega, rfl, HM.out⟩
      case round =>
        obtain ⟨i, hi, rfl, hM⟩ := hrel
        have HM2 := Lib.hid hM
        clear hM
        by_cases hlti : i < n
        · have hiI : (i : Int) < (n : Int) := by omega
          go_wp2
          go_loopw [19] (fun j' wr => ∃ j : Nat, j ≤ n ∧ j' = .int .i64 j ∧ RefW w base wr g vN vR (.slice (some ⟨qD, 0, none⟩) n cD) names roads n us (mixed D k i j)) (fun j' _ => n - (intOf j').toNat)
          case atStart => exact ⟨0, by omega, rfl, HM2.out⟩
          case round =>
            obtain ⟨j, hj, rfl, hM⟩ := hrel
            have HM3 := Lib.hid hM
            by_cases hltj : j < n
            · have hjI : (j : Int) < (n : Int) := by omega
              have c0 := hM.blk.cell 3
              simp only [List.getElem?_toArray, List.getElem?_cons_zero, List.getElem?_cons_succ] at c0
              have ci := hM.sq.rowAt hlti
              have ck := hM.sq.rowAt hlt
              have dik := hM.sq.cell hlti hlt
              have dkj := hM.sq.cell hlt hltj
              have dij := hM.sq.cell hlti hltj
              rw [mixed_k1 HDS.out] at dik
              rw [mixed_k2 HDS.out] at dkj
              rw [mixed_here] at dij
              have bik := HDB.out i k hlti
              have bkj := HDB.out k j hlt
              have bij := HDB.out i j hlti
              have hzf := (hM.sq.rows i hlti).frozen j
              have hskip : ∀ W, RefW w base W g vN vR (.slice (some ⟨qD, 0, none⟩) n cD) names roads n us (mixed D k i j) → better D k i j = D i j → RefW w base W g vN vR (.slice (some ⟨qD, 0, none⟩) n cD) names roads n us (mixed D k i (j + 1)) := fun W h e => by rw [← mixed_skip e]; exact h
              have hstep : ∀ W d, RefW w base W g vN vR (.slice (some ⟨qD, 0, none⟩) n cD) names roads n us (mixed D k i j) → better D k i j = d → RefW w base (W.setCell ⟨us i, j, none⟩ (.int .i64 d)) g vN vR (.slice (some ⟨qD, 0, none⟩) n cD) names roads n us (mixed D k i (j + 1)) := fun W d h e => by
                rw [← mixed_step, e]
                exact h.set_ hbase hlti hltj d
              have hbet : better D k i j = if 0 ≤ D i k ∧ 0 ≤ D k j ∧ (D i j < 0 ∨ D i k + D k j < D i j) then D i k + D k j else D i j := rfl
              have HSK := Lib.hid hskip; have HST := Lib.hid hstep
              generalize D i k = a at dik bik hbet
              generalize D k j = b at dkj bkj hbet
              generalize D i j = c at dij bij hbet HSK
              have HBET := Lib.hid hbet
              clear hM hskip hstep hbet HM HM2
              by_cases ha : a < 0
              · as_aux_lemma =>
                  go_wp2
                  go_roundw
                  case rel => exact ⟨j + 1, by omega, by go_num, HSK.out _ HM3.out (by rw [HBET.out, if_neg (by omega)])⟩
                  case measure => simp [intOf]; omega
              · by_cases hb : b < 0
                · as_aux_lemma =>
                    have had : decide (a < 0) = false := decide_eq_false ha
                    go_wp2
                    go_roundw
                    case rel => exact ⟨j + 1, by omega, by go_num, HSK.out _ HM3.out (by rw [HBET.out, if_neg (by omega)])⟩
                    case measure => simp [intOf]; omega
                · have had : decide (a < 0) = false := decide_eq_false ha
                  have hbd : decide (b < 0) = false := decide_eq_false hb
                  go_wp2_with fail
                  go_quiet (fail)
                  have hMd := HM3.out.drewN nq
                  have c0 := hMd.blk.cell 3
                  simp only [List.getElem?_toArray, List.getElem?_cons_zero, List.getElem?_cons_succ] at c0
                  have ci := hMd.sq.rowAt hlti
                  have dij2 : (wr.drewN nq).cell? ⟨us i, j, none⟩ = some (.int .i64 c) := dij
                  have hzf := (hMd.sq.rows i hlti).frozen j
                  have HMD := Lib.hid hMd
                  clear hMd dik dkj ck dij
                  generalize wr.drewN nq = w2 at *
                  by_cases hc : c < 0
                  · as_aux_lemma =>
                      go_wp2
                      go_roundw
                      case rel => exact ⟨j + 1, by omega, by go_num, HST.out _ (a + b) HMD.out (by rw [HBET.out, if_pos (by omega)])⟩
                      case measure => simp [intOf]; omega
                  · have hcd : decide (c < 0) = false := decide_eq_false hc
                    by_cases hs : a + b < c
                    · as_aux_lemma =>
                        go_wp2
                        go_roundw
                        case rel => exact ⟨j + 1, by omega, by go_num, HST.out _ (a + b) HMD.out (by rw [HBET.out, if_pos (by omega)])⟩
                        case measure => simp [intOf]; omega
                    · as_aux_lemma =>
                        have hsd : decide (a + b < c) = false := decide_eq_false hs
                        go_wp2
                        go_roundw
                        case rel => exact ⟨j + 1, by omega, by go_num, HSK.out _ HMD.out (by rw [HBET.out, if_neg (by omega)])⟩
                        case measure => simp [intOf]; omega
            · obtain rfl : j = n := by omega
              have hN := HM3.out.congr (D' := mixed D k (i + 1) 0) (fun u v _ hv => mixed_row u v hv)
              have HN := Lib.hid hN
              clear hM hN
              go_wp2
              go_roundw
              case rel => exact ⟨i + 1, by omega, by go_num, HN.out⟩
              case measure => simp [intOf]; omega
        · obtain rfl : i = n := by omega
          have hN := HM2.out.congr (D' := floydD (roadsD roads) (k + 1)) (fun u v hu _ => by rw [HDN.out]; exact mixed_all u v hu)
          have HN := Lib.hid hN
          clear hN
          go_wp2
          go_roundw
          case rel => exact ⟨k + 1, by omega, by go_num, HN.out⟩
          case measure => simp [intOf]; omega
    · obtain rfl : k = n := by omega
      have HM := Lib.hid hM
      clear hM
      go_wp2
      exact HEX.out _ _ _ _ _ _ _ _ _ _ _ _ _ _ _ _ _ _ _ _ _ _ _ _ _ _ _ _ _ _ _ _ _ _ _ _ _ _ _ _ _ _ _ _ _ _ _ _ _ _ _ _ _ _ _ _ _ _ _ _ _ _ _ _ _ _ _ _ _ _ _ _ _ _ _ _ _ _ _ _ _ _ _ _ _ _ _ _ _ _ _ _ _ _ _ _ _ _ _ _ HM.out
end Go.Proofs.YtgimhjkijpcgjaaDoor
namespace Go.Proofs.YtgimhjkijpcgjaaDoor
open Go.RowKit Go.Lib

noncomputable def rnBody7 : Code := loopAt Tryd.f43 6
set_option linter.unusedSimpArgs false in
set_option linter.unusedVariables false in
set_option maxRecDepth 40000 in
set_option maxHeartbeats 8000000 in
theorem rn_set (Q0 : Exit → Act → World → Prop) (w W0 : World) (base g n m d : Nat) (B : Option Addr) (vN vR vD : Value) (us : Nat → Nat) (names : List ByteArray) (roads : List Rd)
    (c0 c2 c3 c4 c5 c6 c7 c8 c9 c10 c11 c13 c14 c15 c17 c18 c19 c20 c21 c22 c23 c24 c25 c26 c27 c28 c29 c30 c31 c32 c33 c34 c35 c36 c37 c38 c39 c40 c41 c42 c43 c44 c45 c46 c47 c48 c49 c50 c51 c52 c53 c54 c55 c56 c57 c58 c59 c60 c61 c62 c63 c64 c65 c66 c67 c68 c69 c70 c71 c72 c73 c74 c75 c76 c77 c78 c79 c80 c81 c82 c83 c84 c85 c86 c87 c88 c89 c90 c91 c92 c93 c94 c95 c96 c97 c98 c99 c100 c101 c102 c103 c104 c105 c106 c107 c108 c109 c110 c111 c112 c113 c114 c115 c116 c117 c118 c119 c120 c121 c122 c123 c124 c125 c126 c127 c128 c129 c130 c131 c132 c133 c134 c135 c136 c137 c138 c139 c140 c141 c142 c143 c144 c145 c146 c147 c148 c149 c150 c151 c152 c153 c154 c155 c156 c157 c158 c159 c160 c161 c162 c163 c164 c165 c166 c167 c168 c169 c170 c171 c172 c173 c174 c175 c176 c177 c178 c179 c180 c181 c182 c183 c184 c185 c186 c187 c188 c189 c190 c191 c192 c193 c194 c195 c196 c197 c198 c199 c200 c201 c202 c203 c204 c205 c206 c207 c208 c209 c210 c211 c212 c213 c214 c215 c216 c217 c218 c219 c220 c221 c222 c223 c224 c225 c226 c227 c228 c229 c230 c231 c232 c233 c234 c235 c236 c237 c238 c239 c240 c241 c242 c243 c244 c245 c246 c247 c248 c249 c250 c251 c252 c253 c254 c255 c256 c257 c258 c259 c260 c261 c262 c263 c264 c265 c266 c267 c268 c269 c270 c271 c272 c273 c274 c275 c276 c277 c278 c279 c280 c281 c282 c283 c284 c285 c286 c287 c288 c289 c290 c291 c292 c293 c294 c295 c296 c297 c298 c299 c300 c301 c302 c303 c304 c305 c306 c307 c308 c309 c310 c311 c312 c313 c314 c315 c316 c317 c318 c319 c320 c321 c322 c323 c324 : Value)
    (hR : Reads w w.heap.size 3 B m (roads.flatMap roadV)) (hrl : roads.length = m) (hm512 : m ≤ 512) (hok : ∀ x ∈ roads, Okr n x) (hn128 : n ≤ 128) (hM : RefW w base W0 g vN vR vD names roads n us zeroD) (hbase : w.heap.size ≤ base)
    (hexit : ∀ (d16 d179 d180 d181 d182 d183 d184 d185 d186 d187 d188 d189 d190 d191 d192 d193 d194 d195 d196 d197 d198 d199 d200 d201 d202 d203 d204 d205 d206 d207 d208 d209 d210 d211 d212 d213 d214 d215 d216 d217 d218 d219 d220 d221 d222 d223 d224 d225 d226 d227 d228 : Value) (wr : World), RefW w base wr g vN vR vD names roads n us (roadsD roads) → Q0 (.exit 12) ⟨List.toArray (c0 :: .slice B m d :: c2 :: c3 :: c4 :: c5 :: c6 :: c7 :: c8 :: c9 :: c10 :: c11 :: .pointer (some ⟨g, 0, none⟩) :: c13 :: c14 :: c15 :: d16 :: c17 :: c18 :: c19 :: c20 :: c21 :: c22 :: c23 :: c24 :: c25 :: c26 :: c27 :: c28 :: c29 :: c30 :: c31 :: c32 :: c33 :: c34 :: c35 :: c36 :: c37 :: c38 :: c39 :: c40 :: c41 :: c42 :: c43 :: c44 :: c45 :: c46 :: c47 :: c48 :: c49 :: c50 :: c51 :: c52 :: c53 :: c54 :: c55 :: c56 :: c57 :: c58 :: c59 :: c60 :: c61 :: c62 :: c63 :: c64 :: c65 :: c66 :: c67 :: c68 :: c69 :: c70 :: c71 :: c72 :: c73 :: c74 :: c75 :: c76 :: c77 :: c78 :: c79 :: c80 :: c81 :: c82 :: c83 :: c84 :: c85 :: c86 :: c87 :: c88 :: c89 :: c90 :: c91 :: c92 :: c93 :: c94 :: c95 :: c96 :: c97 :: c98 :: c99 :: c100 :: c101 :: c102 :: c103 :: c104 :: c105 :: c106 :: c107 :: c108 :: c109 :: c110 :: c111 :: c112 :: c113 :: c114 :: c115 :: c116 :: c117 :: c118 :: c119 :: c120 :: c121 :: c122 :: c123 :: c124 :: c125 :: c126 :: c127 :: c128 :: c129 :: c130 :: c131 :: c132 :: c133 :: c134 :: c135 :: c136 :: c137 :: c138 :: c139 :: c140 :: c141 :: c142 :: c143 :: c144 :: c145 :: c146 :: c147 :: c148 :: c149 :: c150 :: c151 :: c152 :: c153 :: c154 :: c155 :: c156 :: c157 :: c158 :: c159 :: c160 :: c161 :: c162 :: c163 :: c164 :: c165 :: c166 :: c167 :: c168 :: c169 :: c170 :: c171 :: c172 :: c173 :: c174 :: c175 :: c176 :: c177 :: c178 :: d179 :: d180 :: d181 :: d182 :: d183 :: d184 :: d185 :: d186 :: d187 :: d188 :: d189 :: d190 :: d191 :: d192 :: d193 :: d194 :: d195 :: d196 :: d197 :: d198 :: d199 :: d200 :: d201 :: d202 :: d203 :: d204 :: d205 :: d206 :: d207 :: d208 :: d209 :: d210 :: d211 :: d212 :: d213 :: d214 :: d215 :: d216 :: d217 :: d218 :: d219 :: d220 :: d221 :: d222 :: d223 :: d224 :: d225 :: d226 :: d227 :: d228 :: c229 :: c230 :: c231 :: c232 :: c233 :: c234 :: c235 :: c236 :: c237 :: c238 :: c239 :: c240 :: c241 :: c242 :: c243 :: c244 :: c245 :: c246 :: c247 :: c248 :: c249 :: c250 :: c251 :: c252 :: c253 :: c254 :: c255 :: c256 :: c257 :: c258 :: c259 :: c260 :: c261 :: c262 :: c263 :: c264 :: c265 :: c266 :: c267 :: c268 :: c269 :: c270 :: c271 :: c272 :: c273 :: c274 :: c275 :: c276 :: c277 :: c278 :: c279 :: c280 :: c281 :: c282 :: c283 :: c284 :: c285 :: c286 :: c287 :: c288 :: c289 :: c290 :: c291 :: c292 :: c293 :: c294 :: c295 :: c296 :: c297 :: c298 :: c299 :: c300 :: c301 :: c302 :: c303 :: c304 :: c305 :: c306 :: c307 :: c308 :: c309 :: c310 :: c311 :: c312 :: c313 :: c314 :: c315 :: c316 :: c317 :: c318 :: c319 :: c320 :: c321 :: c322 :: c323 :: c324 :: []), []⟩ wr) :
    Code.wp Tryd.prog (.loop rnBody7) Q0 ⟨List.toArray (c0 :: .slice B m d :: c2 :: c3 :: c4 :: c5 :: c6 :: c7 :: c8 :: c9 :: c10 :: c11 :: .pointer (some ⟨g, 0, none⟩) :: c13 :: c14 :: c15 :: .int .i64 0 :: c17 :: c18 :: c19 :: c20 :: c21 :: c22 :: c23 :: c24 :: c25 :: c26 :: c27 :: c28 :: c29 :: c30 :: c31 :: c32 :: c33 :: c34 :: c35 :: c36 :: c37 :: c38 :: c39 :: c40 :: c41 :: c42 :: c43 :: c44 :: c45 :: c46 :: c47 :: c48 :: c49 :: c50 :: c51 :: c52 :: c53 :: c54 :: c55 :: c56 :: c57 :: c58 :: c59 :: c60 :: c61 :: c62 :: c63 :: c64 :: c65 :: c66 :: c67 :: c68 :: c69 :: c70 :: c71 :: c72 :: c73 :: c74 :: c75 :: c76 :: c77 :: c78 :: c79 :: c80 :: c81 :: c82 :: c83 :: c84 :: c85 :: c86 :: c87 :: c88 :: c89 :: c90 :: c91 :: c92 :: c93 :: c94 :: c95 :: c96 :: c97 :: c98 :: c99 :: c100 :: c101 :: c102 :: c103 :: c104 :: c105 :: c106 :: c107 :: c108 :: c109 :: c110 :: c111 :: c112 :: c113 :: c114 :: c115 :: c116 :: c117 :: c118 :: c119 :: c120 :: c121 :: c122 :: c123 :: c124 :: c125 :: c126 :: c127 :: c128 :: c129 :: c130 :: c131 :: c132 :: c133 :: c134 :: c135 :: c136 :: c137 :: c138 :: c139 :: c140 :: c141 :: c142 :: c143 :: c144 :: c145 :: c146 :: c147 :: c148 :: c149 :: c150 :: c151 :: c152 :: c153 :: c154 :: c155 :: c156 :: c157 :: c158 :: c159 :: c160 :: c161 :: c162 :: c163 :: c164 :: c165 :: c166 :: c167 :: c168 :: c169 :: c170 :: c171 :: c172 :: c173 :: c174 :: c175 :: c176 :: c177 :: c178 :: c179 :: c180 :: c181 :: c182 :: c183 :: c184 :: c185 :: c186 :: c187 :: c188 :: c189 :: c190 :: c191 :: c192 :: c193 :: c194 :: c195 :: c196 :: c197 :: c198 :: c199 :: c200 :: c201 :: c202 :: c203 :: c204 :: c205 :: c206 :: c207 :: c208 :: c209 :: c210 :: c211 :: c212 :: c213 :: c214 :: c215 :: c216 :: c217 :: c218 :: c219 :: c220 :: c221 :: c222 :: c223 :: c224 :: c225 :: c226 :: c227 :: c228 :: c229 :: c230 :: c231 :: c232 :: c233 :: c234 :: c235 :: c236 :: c237 :: c238 :: c239 :: c240 :: c241 :: c242 :: c243 :: c244 :: c245 :: c246 :: c247 :: c248 :: c249 :: c250 :: c251 :: c252 :: c253 :: c254 :: c255 :: c256 :: c257 :: c258 :: c259 :: c260 :: c261 :: c262 :: c263 :: c264 :: c265 :: c266 :: c267 :: c268 :: c269 :: c270 :: c271 :: c272 :: c273 :: c274 :: c275 :: c276 :: c277 :: c278 :: c279 :: c280 :: c281 :: c282 :: c283 :: c284 :: c285 :: c286 :: c287 :: c288 :: c289 :: c290 :: c291 :: c292 :: c293 :: c294 :: c295 :: c296 :: c297 :: c298 :: c299 :: c300 :: c301 :: c302 :: c303 :: c304 :: c305 :: c306 :: c307 :: c308 :: c309 :: c310 :: c311 :: c312 :: c313 :: c314 :: c315 :: c316 :: c317 :: c318 :: c319 :: c320 :: c321 :: c322 :: c323 :: c324 :: []), []⟩ W0 := by
  unfold rnBody7
  conv => arg 2; arg 1; whnf
  have HM0 := Lib.hid hM; have HEX := Lib.hid hexit; have HR0 := Lib.hid hR; have HRL := Lib.hid hrl; have HOK := Lib.hid hok
  clear hM hexit hR hrl hok
  go_loopw [16] (fun i wr => ∃ j : Nat, j ≤ m ∧ i = .int .i64 j ∧ RefW w base wr g vN vR vD names roads n us (roadsD (roads.take j))) (fun i _ => m - (intOf i).toNat)
  case atStart => exact ⟨0, by omega, rfl, HM0.out⟩
  case round =>
    obtain ⟨j, hj, rfl, hM⟩ := hrel
    by_cases hlt : j < m
    · have hjl : j < roads.length := by rw [HRL.out]; exact hlt
      obtain ⟨a0, a1, b0, b1, hne, l0, l1⟩ := HOK.out _ (List.getElem_mem hjl)
      obtain ⟨bd, x, y, l, rfl, ex, r0, r1, r2⟩ := road_cells HR0.out HRL.out hM.below hjl
      rw [ex] at a0 a1 b0 b1 l0 l1
      simp only at a0 a1 b0 b1 l0 l1
      obtain ⟨a, rfl⟩ : ∃ a : Nat, x = a := ⟨x.toNat, by omega⟩
      obtain ⟨b, rfl⟩ : ∃ b : Nat, y = b := ⟨y.toNat, by omega⟩
      have ha : a < n := by omega
      have hb : b < n := by omega
      obtain ⟨qD, cD, rfl, _, _⟩ := hM.sq.form (by omega)
      have hst : roadsD (roads.take (j + 1)) = setD (setD (roadsD (roads.take j)) a b l) b a l := by
        rw [List.take_succ_eq_append_getElem hjl, roadsD_snoc, ex]; rfl
      have hM1 := hM.later (Below.refl _ wr).drew
      have hM2 := hM1.set_ hbase ha hb l
      have hM3 := hM2.later (Below.refl _ _).drew
      have hM4 := hM3.set_ hbase hb ha l
      have HM4 := Lib.hid hM4
      have hjI : (j : Int) < (m : Int) := by omega
      have haI : (a : Int) < (n : Int) := by omega
      have hbI : (b : Int) < (n : Int) := by omega
      have c0 := hM.blk.cell 3
      simp only [List.getElem?_toArray, List.getElem?_cons_zero, List.getElem?_cons_succ] at c0
      have ca := hM.sq.rowAt ha
      have cab := hM.sq.cell ha hb
      have hzf := (hM.sq.rows a ha).frozen b
      have HM := Lib.hid hM; have HM2 := Lib.hid hM2; have HST := Lib.hid hst; have HEX2 := Lib.hid ex
      clear hM hM1 hM2 hM3 hM4 hst ex hne HM0
      go_upto_region 43 with fail
      go_still_tail 22, (by kernel_rfl)
      change wpList _ _ _ _ _ wr.drew
      have hMd := HM.out.later (Below.refl _ wr).drew
      generalize wr.drew = w2 at HM2 HM4 hMd ⊢
      clear c0 ca cab hzf r0 r1 r2
      have cab := hMd.sq.cell ha hb
      have hzf := (hMd.sq.rows a ha).frozen b
      clear hMd
      go_upto_region 44 with fail
      generalize w2.setCell ⟨us a, b, none⟩ (.int .i64 l) = w3 at HM2 HM4 ⊢
      clear cab hzf
      obtain ⟨bd', x', y', l', hbd, ex', r0, r1, r2⟩ := road_cells HR0.out HRL.out HM2.out.below hjl
      obtain rfl := Option.some.inj hbd
      rw [HEX2.out] at ex'
      simp only [Prod.mk.injEq] at ex'
      obtain ⟨rfl, rfl, rfl⟩ := ex'
      have c0 := HM2.out.blk.cell 3
      simp only [List.getElem?_toArray, List.getElem?_cons_zero, List.getElem?_cons_succ] at c0
      have cb := HM2.out.sq.rowAt hb
      have cba := HM2.out.sq.cell hb ha
      have hzf := (HM2.out.sq.rows b hb).frozen a
      clear hbd
      go_still_tail 22, (by kernel_rfl)
      change wpList _ _ _ _ _ w3.drew
      have hMd := HM2.out.later (Below.refl _ w3).drew
      generalize w3.drew = w4 at HM4 hMd ⊢
      clear c0 cb cba hzf r0 r1 r2
      have cba := hMd.sq.cell hb ha
      have hzf := (hMd.sq.rows b hb).frozen a
      clear hMd
      go_wp2
      go_roundw
      case rel => exact ⟨j + 1, by omega, by go_num, by rw [HST.out]; exact HM4.out⟩
      case measure => simp [intOf]; omega
    · obtain rfl : j = m := by omega
      rw [show roads.take j = roads from List.take_of_length_le (by rw [HRL.out]; exact Nat.le_refl _)] at hM
      have HM := Lib.hid hM
      clear hM
      go_wp2
      exact HEX.out _ _ _ _ _ _ _ _ _ _ _ _ _ _ _ _ _ _ _ _ _ _ _ _ _ _ _ _ _ _ _ _ _ _ _ _ _ _ _ _ _ _ _ _ _ _ _ _ _ _ _ _ HM.out
end Go.Proofs.YtgimhjkijpcgjaaDoor
