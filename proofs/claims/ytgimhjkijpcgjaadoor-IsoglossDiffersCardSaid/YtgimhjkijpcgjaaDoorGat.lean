/-
  layer 36: the reference's New: the roads. Conditions: roads that can be read.
-/
import Derived.Test.YtgimhjkijpcgjaaDoorGaj
import Derived.Test.YtgimhjkijpcgjaaDoorGam
import Derived.Deep.QuietTactic
import Derived.BigQuiet
import Derived.Test.YtgimhjkijpcgjaaDoorGar
namespace Go.Proofs.YtgimhjkijpcgjaaDoor
open Go.RowKit Go.Lib

theorem hasRoad_at {roads : List Rd} {k j : Nat} {x : Rd} (hk : k < roads.length) (hj : j < k) (h : sameRoad x (roads[j]'(by omega)) = true) : hasRoad (roads.take k) x = true := by
  unfold hasRoad
  rw [List.any_eq_true]
  refine ⟨roads[j]'(by omega), ?_, h⟩
  rw [List.mem_iff_getElem]
  exact ⟨j, by rw [List.length_take]; omega, by rw [List.getElem_take]⟩
theorem hasRoad_no {roads : List Rd} {k : Nat} {x : Rd} (h : ∀ j, j < k → ∀ (hl : j < roads.length), ¬ sameRoad x roads[j] = true) : hasRoad (roads.take k) x = false := by
  unfold hasRoad
  rw [List.any_eq_false]
  intro y hy
  obtain ⟨j, hj, rfl⟩ := List.getElem_of_mem hy
  rw [List.length_take] at hj
  rw [List.getElem_take]
  exact h j (by omega) (by omega)
noncomputable def rnBody3 : Code := loopAt Tryd.f43 2
set_option linter.unusedSimpArgs false in
set_option linter.unusedVariables false in
set_option maxRecDepth 40000 in
set_option maxHeartbeats 100000000 in
theorem rn_roads (Q0 : Exit → Act → World → Prop) (w W0 : World) (n m d : Nat) (B : Option Addr) (roads : List Rd)
    (c0 c2 c3 c4 c5 c6 c7 c10 c11 c12 c13 c14 c15 c16 c17 c18 c19 c20 c21 c22 c23 c24 c25 c26 c27 c28 c29 c30 c31 c32 c33 c34 c35 c36 c37 c38 c39 c40 c41 c42 c43 c44 c45 c46 c47 c48 c49 c50 c51 c52 c53 c54 c55 c56 c57 c58 c59 c60 c61 c62 c63 c64 c65 c66 c67 c68 c69 c70 c71 c72 c73 c74 c75 c76 c77 c78 c79 c80 c81 c82 c83 c84 c85 c86 c87 c88 c89 c90 c91 c92 c93 c94 c95 c96 c97 c98 c99 c100 c101 c102 c103 c104 c105 c106 c107 c108 c109 c110 c111 c112 c113 c114 c115 c116 c117 c118 c119 c120 c121 c122 c123 c124 c125 c126 c127 c128 c129 c130 c131 c132 c133 c134 c135 c136 c137 c138 c139 c140 c141 c142 c143 c144 c145 c146 c147 c148 c149 c150 c151 c152 c153 c154 c155 c156 c157 c158 c159 c160 c161 c162 c163 c164 c165 c166 c167 c168 c169 c170 c171 c172 c173 c174 c175 c176 c177 c178 c179 c180 c181 c182 c183 c184 c185 c186 c187 c188 c189 c190 c191 c192 c193 c194 c195 c196 c197 c198 c199 c200 c201 c202 c203 c204 c205 c206 c207 c208 c209 c210 c211 c212 c213 c214 c215 c216 c217 c218 c219 c220 c221 c222 c223 c224 c225 c226 c227 c228 c229 c230 c231 c232 c233 c234 c235 c236 c237 c238 c239 c240 c241 c242 c243 c244 c245 c246 c247 c248 c249 c250 c251 c252 c253 c254 c255 c256 c257 c258 c259 c260 c261 c262 c263 c264 c265 c266 c267 c268 c269 c270 c271 c272 c273 c274 c275 c276 c277 c278 c279 c280 c281 c282 c283 c284 c285 c286 c287 c288 c289 c290 c291 c292 c293 c294 c295 c296 c297 c298 c299 c300 c301 c302 c303 c304 c305 c306 c307 c308 c309 c310 c311 c312 c313 c314 c315 c316 c317 c318 c319 c320 c321 c322 c323 c324 : Value)
    (hR : Reads w w.heap.size 3 B m (roads.flatMap roadV)) (hrl : roads.length = m) (hm512 : m ≤ 512) (hn128 : n ≤ 128) (hW : Below w.heap.size w W0)
    (hret : ∀ (d9 d10 d11 d57 d58 d59 d60 d61 d62 d63 d64 d65 d66 d67 d68 d69 d70 d71 d72 d73 d74 d75 d76 d77 d78 d79 d80 d81 d82 d83 d84 d85 d86 d87 d88 d89 d90 d91 d92 d93 d94 d95 d96 d97 d98 d99 d100 d101 d102 d103 d104 d105 d106 d107 d108 d109 d110 d111 d112 d113 d114 d115 d116 d117 d118 d119 d120 d121 d122 d123 d124 d125 d126 d127 d128 d129 d130 d131 d132 d133 d134 d135 d136 d137 d138 d139 d140 d141 d142 : Value) (e : Int) (wr : World), Below w.heap.size w wr → e ≠ 0 → roadsE n [] roads = e → Q0 .ret ⟨List.toArray (c0 :: .slice B m d :: c2 :: c3 :: .pointer none :: .int .i64 e :: c6 :: c7 :: .int .i64 (n : Nat) :: d9 :: d10 :: d11 :: c12 :: c13 :: c14 :: c15 :: c16 :: c17 :: c18 :: c19 :: c20 :: c21 :: c22 :: c23 :: c24 :: c25 :: c26 :: c27 :: c28 :: c29 :: c30 :: c31 :: c32 :: c33 :: c34 :: c35 :: c36 :: c37 :: c38 :: c39 :: c40 :: c41 :: c42 :: c43 :: c44 :: c45 :: c46 :: c47 :: c48 :: c49 :: c50 :: c51 :: c52 :: c53 :: c54 :: c55 :: c56 :: d57 :: d58 :: d59 :: d60 :: d61 :: d62 :: d63 :: d64 :: d65 :: d66 :: d67 :: d68 :: d69 :: d70 :: d71 :: d72 :: d73 :: d74 :: d75 :: d76 :: d77 :: d78 :: d79 :: d80 :: d81 :: d82 :: d83 :: d84 :: d85 :: d86 :: d87 :: d88 :: d89 :: d90 :: d91 :: d92 :: d93 :: d94 :: d95 :: d96 :: d97 :: d98 :: d99 :: d100 :: d101 :: d102 :: d103 :: d104 :: d105 :: d106 :: d107 :: d108 :: d109 :: d110 :: d111 :: d112 :: d113 :: d114 :: d115 :: d116 :: d117 :: d118 :: d119 :: d120 :: d121 :: d122 :: d123 :: d124 :: d125 :: d126 :: d127 :: d128 :: d129 :: d130 :: d131 :: d132 :: d133 :: d134 :: d135 :: d136 :: d137 :: d138 :: d139 :: d140 :: d141 :: d142 :: c143 :: c144 :: c145 :: c146 :: c147 :: c148 :: c149 :: c150 :: c151 :: c152 :: c153 :: c154 :: c155 :: c156 :: c157 :: c158 :: c159 :: c160 :: c161 :: c162 :: c163 :: c164 :: c165 :: c166 :: c167 :: c168 :: c169 :: c170 :: c171 :: c172 :: c173 :: c174 :: c175 :: c176 :: c177 :: c178 :: c179 :: c180 :: c181 :: c182 :: c183 :: c184 :: c185 :: c186 :: c187 :: c188 :: c189 :: c190 :: c191 :: c192 :: c193 :: c194 :: c195 :: c196 :: c197 :: c198 :: c199 :: c200 :: c201 :: c202 :: c203 :: c204 :: c205 :: c206 :: c207 :: c208 :: c209 :: c210 :: c211 :: c212 :: c213 :: c214 :: c215 :: c216 :: c217 :: c218 :: c219 :: c220 :: c221 :: c222 :: c223 :: c224 :: c225 :: c226 :: c227 :: c228 :: c229 :: c230 :: c231 :: c232 :: c233 :: c234 :: c235 :: c236 :: c237 :: c238 :: c239 :: c240 :: c241 :: c242 :: c243 :: c244 :: c245 :: c246 :: c247 :: c248 :: c249 :: c250 :: c251 :: c252 :: c253 :: c254 :: c255 :: c256 :: c257 :: c258 :: c259 :: c260 :: c261 :: c262 :: c263 :: c264 :: c265 :: c266 :: c267 :: c268 :: c269 :: c270 :: c271 :: c272 :: c273 :: c274 :: c275 :: c276 :: c277 :: c278 :: c279 :: c280 :: c281 :: c282 :: c283 :: c284 :: c285 :: c286 :: c287 :: c288 :: c289 :: c290 :: c291 :: c292 :: c293 :: c294 :: c295 :: c296 :: c297 :: c298 :: c299 :: c300 :: c301 :: c302 :: c303 :: c304 :: c305 :: c306 :: c307 :: c308 :: c309 :: c310 :: c311 :: c312 :: c313 :: c314 :: c315 :: c316 :: c317 :: c318 :: c319 :: c320 :: c321 :: c322 :: c323 :: c324 :: []), []⟩ wr)
    (hexit : ∀ (d4 d5 d9 d10 d11 d57 d58 d59 d60 d61 d62 d63 d64 d65 d66 d67 d68 d69 d70 d71 d72 d73 d74 d75 d76 d77 d78 d79 d80 d81 d82 d83 d84 d85 d86 d87 d88 d89 d90 d91 d92 d93 d94 d95 d96 d97 d98 d99 d100 d101 d102 d103 d104 d105 d106 d107 d108 d109 d110 d111 d112 d113 d114 d115 d116 d117 d118 d119 d120 d121 d122 d123 d124 d125 d126 d127 d128 d129 d130 d131 d132 d133 d134 d135 d136 d137 d138 d139 d140 d141 d142 : Value) (wr : World), Below w.heap.size w wr → roadsE n [] roads = 0 → Q0 (.exit 4) ⟨List.toArray (c0 :: .slice B m d :: c2 :: c3 :: d4 :: d5 :: c6 :: c7 :: .int .i64 (n : Nat) :: d9 :: d10 :: d11 :: c12 :: c13 :: c14 :: c15 :: c16 :: c17 :: c18 :: c19 :: c20 :: c21 :: c22 :: c23 :: c24 :: c25 :: c26 :: c27 :: c28 :: c29 :: c30 :: c31 :: c32 :: c33 :: c34 :: c35 :: c36 :: c37 :: c38 :: c39 :: c40 :: c41 :: c42 :: c43 :: c44 :: c45 :: c46 :: c47 :: c48 :: c49 :: c50 :: c51 :: c52 :: c53 :: c54 :: c55 :: c56 :: d57 :: d58 :: d59 :: d60 :: d61 :: d62 :: d63 :: d64 :: d65 :: d66 :: d67 :: d68 :: d69 :: d70 :: d71 :: d72 :: d73 :: d74 :: d75 :: d76 :: d77 :: d78 :: d79 :: d80 :: d81 :: d82 :: d83 :: d84 :: d85 :: d86 :: d87 :: d88 :: d89 :: d90 :: d91 :: d92 :: d93 :: d94 :: d95 :: d96 :: d97 :: d98 :: d99 :: d100 :: d101 :: d102 :: d103 :: d104 :: d105 :: d106 :: d107 :: d108 :: d109 :: d110 :: d111 :: d112 :: d113 :: d114 :: d115 :: d116 :: d117 :: d118 :: d119 :: d120 :: d121 :: d122 :: d123 :: d124 :: d125 :: d126 :: d127 :: d128 :: d129 :: d130 :: d131 :: d132 :: d133 :: d134 :: d135 :: d136 :: d137 :: d138 :: d139 :: d140 :: d141 :: d142 :: c143 :: c144 :: c145 :: c146 :: c147 :: c148 :: c149 :: c150 :: c151 :: c152 :: c153 :: c154 :: c155 :: c156 :: c157 :: c158 :: c159 :: c160 :: c161 :: c162 :: c163 :: c164 :: c165 :: c166 :: c167 :: c168 :: c169 :: c170 :: c171 :: c172 :: c173 :: c174 :: c175 :: c176 :: c177 :: c178 :: c179 :: c180 :: c181 :: c182 :: c183 :: c184 :: c185 :: c186 :: c187 :: c188 :: c189 :: c190 :: c191 :: c192 :: c193 :: c194 :: c195 :: c196 :: c197 :: c198 :: c199 :: c200 :: c201 :: c202 :: c203 :: c204 :: c205 :: c206 :: c207 :: c208 :: c209 :: c210 :: c211 :: c212 :: c213 :: c214 :: c215 :: c216 :: c217 :: c218 :: c219 :: c220 :: c221 :: c222 :: c223 :: c224 :: c225 :: c226 :: c227 :: c228 :: c229 :: c230 :: c231 :: c232 :: c233 :: c234 :: c235 :: c236 :: c237 :: c238 :: c239 :: c240 :: c241 :: c242 :: c243 :: c244 :: c245 :: c246 :: c247 :: c248 :: c249 :: c250 :: c251 :: c252 :: c253 :: c254 :: c255 :: c256 :: c257 :: c258 :: c259 :: c260 :: c261 :: c262 :: c263 :: c264 :: c265 :: c266 :: c267 :: c268 :: c269 :: c270 :: c271 :: c272 :: c273 :: c274 :: c275 :: c276 :: c277 :: c278 :: c279 :: c280 :: c281 :: c282 :: c283 :: c284 :: c285 :: c286 :: c287 :: c288 :: c289 :: c290 :: c291 :: c292 :: c293 :: c294 :: c295 :: c296 :: c297 :: c298 :: c299 :: c300 :: c301 :: c302 :: c303 :: c304 :: c305 :: c306 :: c307 :: c308 :: c309 :: c310 :: c311 :: c312 :: c313 :: c314 :: c315 :: c316 :: c317 :: c318 :: c319 :: c320 :: c321 :: c322 :: c323 :: c324 :: []), []⟩ wr) :
    Code.wp Tryd.prog (.loop rnBody3) Q0 ⟨List.toArray (c0 :: .slice B m d :: c2 :: c3 :: c4 :: c5 :: c6 :: c7 :: .int .i64 (n : Nat) :: .int .i64 0 :: c10 :: c11 :: c12 :: c13 :: c14 :: c15 :: c16 :: c17 :: c18 :: c19 :: c20 :: c21 :: c22 :: c23 :: c24 :: c25 :: c26 :: c27 :: c28 :: c29 :: c30 :: c31 :: c32 :: c33 :: c34 :: c35 :: c36 :: c37 :: c38 :: c39 :: c40 :: c41 :: c42 :: c43 :: c44 :: c45 :: c46 :: c47 :: c48 :: c49 :: c50 :: c51 :: c52 :: c53 :: c54 :: c55 :: c56 :: c57 :: c58 :: c59 :: c60 :: c61 :: c62 :: c63 :: c64 :: c65 :: c66 :: c67 :: c68 :: c69 :: c70 :: c71 :: c72 :: c73 :: c74 :: c75 :: c76 :: c77 :: c78 :: c79 :: c80 :: c81 :: c82 :: c83 :: c84 :: c85 :: c86 :: c87 :: c88 :: c89 :: c90 :: c91 :: c92 :: c93 :: c94 :: c95 :: c96 :: c97 :: c98 :: c99 :: c100 :: c101 :: c102 :: c103 :: c104 :: c105 :: c106 :: c107 :: c108 :: c109 :: c110 :: c111 :: c112 :: c113 :: c114 :: c115 :: c116 :: c117 :: c118 :: c119 :: c120 :: c121 :: c122 :: c123 :: c124 :: c125 :: c126 :: c127 :: c128 :: c129 :: c130 :: c131 :: c132 :: c133 :: c134 :: c135 :: c136 :: c137 :: c138 :: c139 :: c140 :: c141 :: c142 :: c143 :: c144 :: c145 :: c146 :: c147 :: c148 :: c149 :: c150 :: c151 :: c152 :: c153 :: c154 :: c155 :: c156 :: c157 :: c158 :: c159 :: c160 :: c161 :: c162 :: c163 :: c164 :: c165 :: c166 :: c167 :: c168 :: c169 :: c170 :: c171 :: c172 :: c173 :: c174 :: c175 :: c176 :: c177 :: c178 :: c179 :: c180 :: c181 :: c182 :: c183 :: c184 :: c185 :: c186 :: c187 :: c188 :: c189 :: c190 :: c191 :: c192 :: c193 :: c194 :: c195 :: c196 :: c197 :: c198 :: c199 :: c200 :: c201 :: c202 :: c203 :: c204 :: c205 :: c206 :: c207 :: c208 :: c209 :: c210 :: c211 :: c212 :: c213 :: c214 :: c215 :: c216 :: c217 :: c218 :: c219 :: c220 :: c221 :: c222 :: c223 :: c224 :: c225 :: c226 :: c227 :: c228 :: c229 :: c230 :: c231 :: c232 :: c233 :: c234 :: c235 :: c236 :: c237 :: c238 :: c239 :: c240 :: c241 :: c242 :: c243 :: c244 :: c245 :: c246 :: c247 :: c248 :: c249 :: c250 :: c251 :: c252 :: c253 :: c254 :: c255 :: c256 :: c257 :: c258 :: c259 :: c260 :: c261 :: c262 :: c263 :: c264 :: c265 :: c266 :: c267 :: c268 :: c269 :: c270 :: c271 :: c272 :: c273 :: c274 :: c275 :: c276 :: c277 :: c278 :: c279 :: c280 :: c281 :: c282 :: c283 :: c284 :: c285 :: c286 :: c287 :: c288 :: c289 :: c290 :: c291 :: c292 :: c293 :: c294 :: c295 :: c296 :: c297 :: c298 :: c299 :: c300 :: c301 :: c302 :: c303 :: c304 :: c305 :: c306 :: c307 :: c308 :: c309 :: c310 :: c311 :: c312 :: c313 :: c314 :: c315 :: c316 :: c317 :: c318 :: c319 :: c320 :: c321 :: c322 :: c323 :: c324 :: []), []⟩ W0 := by
  unfold rnBody3
  conv => arg 2; arg 1; whnf
  have HR := Lib.hid hR; have HRL := Lib.hid hrl; have HW := Lib.hid hW; have HRET := Lib.hid hret; have HEX := Lib.hid hexit
  clear hR hrl hW hret hexit
  go_loopw [9] (fun i wr => ∃ k : Nat, k ≤ m ∧ i = .int .i64 k ∧ roadsE n [] roads = roadsE n (roads.take k) (roads.drop k) ∧ Below w.heap.size w wr) (fun i _ => m - (intOf i).toNat)
  case atStart => exact ⟨0, by omega, rfl, rfl, HW.out⟩
  case round =>
    obtain ⟨k, hk, rfl, hne, hb⟩ := hrel
    have HNE := Lib.hid hne; have HB := Lib.hid hb
    clear hne hb
    by_cases hlt : k < m
    · have hkl : k < roads.length := by rw [HRL.out]; exact hlt
      obtain ⟨bd, x, y, l, rfl, ex, r0, r1, r2⟩ := road_cells HR.out HRL.out HB.out hkl
      have hkI : (k : Int) < (m : Int) := by omega
      have hst := roads_step n roads k hkl
      rw [ex] at hst
      have hbad : ∀ v, v ≠ 0 → roadE n (roads.take k) (x, y, l) = v → roadsE n [] roads = v := fun v h0 hv => by rw [HNE.out, hst, if_neg (by rw [hv]; exact h0), hv]
      have hgood : roadE n (roads.take k) (x, y, l) = 0 → roadsE n [] roads = roadsE n (roads.take (k + 1)) (roads.drop (k + 1)) := fun h => by rw [HNE.out, hst, if_pos h]
      have hb1 : Below w.heap.size w (wr.alloc (.cells #[.int .i64 x, .int .i64 y, .int .i64 l] 71)) := HB.out.alloc HB.out.size _
      have hxb := Blk.new wr 71 #[.int .i64 x, .int .i64 y, .int .i64 l]
      have y0 := hxb.cell 0; have y1 := hxb.cell 1; have y2 := hxb.cell 2
      simp only [List.getElem?_toArray, List.getElem?_cons_zero, List.getElem?_cons_succ] at y0 y1 y2
      have HB1 := Lib.hid hb1; have HXB := Lib.hid hxb; have HBAD := Lib.hid hbad; have HGOOD := Lib.hid hgood
      clear hst hbad hgood hb1 hxb ex
      by_cases h1 : x < 0
      · as_aux_lemma =>
          go_wp2
          exact HRET.out _ _ _ _ _ _ _ _ _ _ _ _ _ _ _ _ _ _ _ _ _ _ _ _ _ _ _ _ _ _ _ _ _ _ _ _ _ _ _ _ _ _ _ _ _ _ _ _ _ _ _ _ _ _ _ _ _ _ _ _ _ _ _ _ _ _ _ _ _ _ _ _ _ _ _ _ _ _ _ _ _ _ _ _ _ _ _ _ _ 3 _ HB1.out (by decide) (HBAD.out 3 (by decide) (by unfold roadE; rw [if_pos (by simp only; omega)]))
      have h1d : decide (x < 0) = false := decide_eq_false h1
      by_cases h2 : (n : Int) ≤ x
      · as_aux_lemma =>
          go_wp2
          exact HRET.out _ _ _ _ _ _ _ _ _ _ _ _ _ _ _ _ _ _ _ _ _ _ _ _ _ _ _ _ _ _ _ _ _ _ _ _ _ _ _ _ _ _ _ _ _ _ _ _ _ _ _ _ _ _ _ _ _ _ _ _ _ _ _ _ _ _ _ _ _ _ _ _ _ _ _ _ _ _ _ _ _ _ _ _ _ _ _ _ _ 3 _ HB1.out (by decide) (HBAD.out 3 (by decide) (by unfold roadE; rw [if_pos (by simp only; omega)]))
      have h2d : decide ((n : Int) ≤ x) = false := decide_eq_false h2
      by_cases h3 : y < 0
      · as_aux_lemma =>
          go_wp2
          exact HRET.out _ _ _ _ _ _ _ _ _ _ _ _ _ _ _ _ _ _ _ _ _ _ _ _ _ _ _ _ _ _ _ _ _ _ _ _ _ _ _ _ _ _ _ _ _ _ _ _ _ _ _ _ _ _ _ _ _ _ _ _ _ _ _ _ _ _ _ _ _ _ _ _ _ _ _ _ _ _ _ _ _ _ _ _ _ _ _ _ _ 3 _ HB1.out (by decide) (HBAD.out 3 (by decide) (by unfold roadE; rw [if_pos (by simp only; omega)]))
      have h3d : decide (y < 0) = false := decide_eq_false h3
      by_cases h4 : (n : Int) ≤ y
      · as_aux_lemma =>
          go_wp2
          exact HRET.out _ _ _ _ _ _ _ _ _ _ _ _ _ _ _ _ _ _ _ _ _ _ _ _ _ _ _ _ _ _ _ _ _ _ _ _ _ _ _ _ _ _ _ _ _ _ _ _ _ _ _ _ _ _ _ _ _ _ _ _ _ _ _ _ _ _ _ _ _ _ _ _ _ _ _ _ _ _ _ _ _ _ _ _ _ _ _ _ _ 3 _ HB1.out (by decide) (HBAD.out 3 (by decide) (by unfold roadE; rw [if_pos (by simp only; omega)]))
      have h4d : decide ((n : Int) ≤ y) = false := decide_eq_false h4
      by_cases h5 : x = y
      · as_aux_lemma =>
          subst h5
          go_wp2
          exact HRET.out _ _ _ _ _ _ _ _ _ _ _ _ _ _ _ _ _ _ _ _ _ _ _ _ _ _ _ _ _ _ _ _ _ _ _ _ _ _ _ _ _ _ _ _ _ _ _ _ _ _ _ _ _ _ _ _ _ _ _ _ _ _ _ _ _ _ _ _ _ _ _ _ _ _ _ _ _ _ _ _ _ _ _ _ _ _ _ _ _ 9 _ HB1.out (by decide) (HBAD.out 9 (by decide) (by unfold roadE; rw [if_neg (by simp only; omega), if_pos rfl]))
      by_cases h6 : l < 1
      · as_aux_lemma =>
          go_wp2
          exact HRET.out _ _ _ _ _ _ _ _ _ _ _ _ _ _ _ _ _ _ _ _ _ _ _ _ _ _ _ _ _ _ _ _ _ _ _ _ _ _ _ _ _ _ _ _ _ _ _ _ _ _ _ _ _ _ _ _ _ _ _ _ _ _ _ _ _ _ _ _ _ _ _ _ _ _ _ _ _ _ _ _ _ _ _ _ _ _ _ _ _ 2 _ HB1.out (by decide) (HBAD.out 2 (by decide) (by unfold roadE; rw [if_neg (by simp only; omega), if_neg h5, if_pos (by simp only; omega)]))
      have h6d : decide (l < 1) = false := decide_eq_false h6
      by_cases h7 : 1073741824 < l
      · as_aux_lemma =>
          go_wp2
          exact HRET.out _ _ _ _ _ _ _ _ _ _ _ _ _ _ _ _ _ _ _ _ _ _ _ _ _ _ _ _ _ _ _ _ _ _ _ _ _ _ _ _ _ _ _ _ _ _ _ _ _ _ _ _ _ _ _ _ _ _ _ _ _ _ _ _ _ _ _ _ _ _ _ _ _ _ _ _ _ _ _ _ _ _ _ _ _ _ _ _ _ 2 _ HB1.out (by decide) (HBAD.out 2 (by decide) (by unfold roadE; rw [if_neg (by simp only; omega), if_neg h5, if_pos (by simp only; omega)]))
      have h7d : decide (1073741824 < l) = false := decide_eq_false h7
      have hsix : hasRoad (roads.take k) (x, y, l) = true → roadsE n [] roads = 6 := fun h => HBAD.out 6 (by decide) (by unfold roadE; rw [if_neg (by simp only; omega), if_neg h5, if_neg (by simp only; omega), if_pos h])
      have hzero : hasRoad (roads.take k) (x, y, l) = false → roadsE n [] roads = roadsE n (roads.take (k + 1)) (roads.drop (k + 1)) := fun h => HGOOD.out (by unfold roadE; rw [if_neg (by simp only; omega), if_neg h5, if_neg (by simp only; omega), if_neg (by rw [h]; decide)])
      have HSIX := Lib.hid hsix; have HZERO := Lib.hid hzero
      clear hsix hzero HBAD HGOOD
      go_wp2
      clear h1 h2 h3 h4 h6 h7 h1d h2d h3d h4d h6d h7d
      go_loopw [11] (fun i wx => ∃ j : Nat, j ≤ k ∧ i = .int .i64 j ∧ (∀ t, t < j → ∀ (hl : t < roads.length), ¬ sameRoad (x, y, l) roads[t] = true) ∧ Below w.heap.size w wx ∧ Blk wx wr.heap.size 71 #[.int .i64 x, .int .i64 y, .int .i64 l]) (fun i _ => k - (intOf i).toNat)
      case atStart => exact ⟨0, by omega, rfl, (fun t ht => absurd ht (Nat.not_lt_zero t)), HB1.out, HXB.out⟩
      case round =>
        obtain ⟨j, hj, rfl, hall, hb, hxb⟩ := hrel
        have HALL := Lib.hid hall; have HB2 := Lib.hid hb; have HXB2 := Lib.hid hxb
        have y0 := hxb.cell 0; have y1 := hxb.cell 1
        simp only [List.getElem?_toArray, List.getElem?_cons_zero, List.getElem?_cons_succ] at y0 y1
        clear hall hb hxb r0 r1 r2
        by_cases hltj : j < k
        · have hjl : j < roads.length := by omega
          have hjI : (j : Int) < (k : Int) := by omega
          have hjI2 : (j : Int) < (m : Int) := by omega
          obtain ⟨bd', x', y', l', hbd, ex, q0, q1, q2⟩ := road_cells HR.out HRL.out HB2.out hjl
          obtain rfl := Option.some.inj hbd
          have hhas : sameRoad (x, y, l) (x', y', l') = true → roadsE n [] roads = 6 := fun h => HSIX.out (hasRoad_at hkl hltj (by rw [ex]; exact h))
          have hnot : ¬ sameRoad (x, y, l) (x', y', l') = true → ∀ t, t < j + 1 → ∀ (hl : t < roads.length), ¬ sameRoad (x, y, l) roads[t] = true := fun h t ht hl => by
            rcases Nat.lt_or_ge t j with h' | h'
            · exact HALL.out t h' hl
            · obtain rfl : t = j := by omega
              rw [ex]; exact h
          have HHAS := Lib.hid hhas; have HNOT := Lib.hid hnot
          clear hbd ex hhas hnot q2 HR HRL HW HEX HNE HB HB1 HXB HSIX HZERO HALL hkl hjl hkI
          go_wp2_with fail
          by_cases g1 : x' = x
          · subst g1
            by_cases g2 : y' = y
            · subst g2
              as_aux_lemma =>
                have h6 := HHAS.out (by unfold sameRoad; simp)
                have H6 := Lib.hid h6
                clear h6
                go_quiet (fail)
                go_wp2
                exact HRET.out _ _ _ _ _ _ _ _ _ _ _ _ _ _ _ _ _ _ _ _ _ _ _ _ _ _ _ _ _ _ _ _ _ _ _ _ _ _ _ _ _ _ _ _ _ _ _ _ _ _ _ _ _ _ _ _ _ _ _ _ _ _ _ _ _ _ _ _ _ _ _ _ _ _ _ _ _ _ _ _ _ _ _ _ _ _ _ _ _ 6 _ (HB2.out.trans (below_drewN _ _ _)) (by decide) H6.out
            · have g3 : ¬ x' = y := h5
              have g2b : (y' == y) = false := beq_false_of_ne g2
              have g3b : (x' == y) = false := beq_false_of_ne g3
              as_aux_lemma =>
                have hn := HNOT.out (by unfold sameRoad; simp [g2, g3])
                have HN := Lib.hid hn
                clear hn
                go_quiet (fail)
                go_wp2
                go_roundw
                case rel => exact ⟨j + 1, by omega, by go_num, HN.out, HB2.out.trans (below_drewN _ _ _), HXB2.out.drewN _⟩
                case measure => simp [intOf]; omega
          · have g1b : (x' == x) = false := beq_false_of_ne g1
            by_cases g3 : x' = y
            · subst g3
              by_cases g4 : y' = x
              · subst g4
                as_aux_lemma =>
                  have h6 := HHAS.out (by unfold sameRoad; simp)
                  have H6 := Lib.hid h6
                  clear h6
                  go_quiet (fail)
                  go_wp2
                  exact HRET.out _ _ _ _ _ _ _ _ _ _ _ _ _ _ _ _ _ _ _ _ _ _ _ _ _ _ _ _ _ _ _ _ _ _ _ _ _ _ _ _ _ _ _ _ _ _ _ _ _ _ _ _ _ _ _ _ _ _ _ _ _ _ _ _ _ _ _ _ _ _ _ _ _ _ _ _ _ _ _ _ _ _ _ _ _ _ _ _ _ 6 _ (HB2.out.trans (below_drewN _ _ _)) (by decide) H6.out
              · have g4b : (y' == x) = false := beq_false_of_ne g4
                as_aux_lemma =>
                  have hn := HNOT.out (by unfold sameRoad; simp [g1, g4])
                  have HN := Lib.hid hn
                  clear hn
                  go_quiet (fail)
                  go_wp2
                  go_roundw
                  case rel => exact ⟨j + 1, by omega, by go_num, HN.out, HB2.out.trans (below_drewN _ _ _), HXB2.out.drewN _⟩
                  case measure => simp [intOf]; omega
            · have g3b : (x' == y) = false := beq_false_of_ne g3
              as_aux_lemma =>
                have hn := HNOT.out (by unfold sameRoad; simp [g1, g3])
                have HN := Lib.hid hn
                clear hn
                go_quiet (fail)
                go_wp2
                go_roundw
                case rel => exact ⟨j + 1, by omega, by go_num, HN.out, HB2.out.trans (below_drewN _ _ _), HXB2.out.drewN _⟩
                case measure => simp [intOf]; omega
        · obtain rfl : j = k := by omega
          have hz := HZERO.out (hasRoad_no HALL.out)
          have HZ := Lib.hid hz
          clear hz
          go_wp2
          go_roundw
          case rel => exact ⟨j + 1, by omega, by go_num, HZ.out, HB2.out⟩
          case measure => simp [intOf]; omega
    · obtain rfl : k = m := by omega
      have hz : roadsE n [] roads = 0 := by
        rw [HNE.out, List.drop_of_length_le (by rw [HRL.out]; exact Nat.le_refl _)]; rfl
      have HZ := Lib.hid hz
      clear hz
      go_wp2
      exact HEX.out _ _ _ _ _ _ _ _ _ _ _ _ _ _ _ _ _ _ _ _ _ _ _ _ _ _ _ _ _ _ _ _ _ _ _ _ _ _ _ _ _ _ _ _ _ _ _ _ _ _ _ _ _ _ _ _ _ _ _ _ _ _ _ _ _ _ _ _ _ _ _ _ _ _ _ _ _ _ _ _ _ _ _ _ _ _ _ _ _ _ _ _ HB.out HZ.out
end Go.Proofs.YtgimhjkijpcgjaaDoor
namespace Go.Proofs.YtgimhjkijpcgjaaDoor
open Go.RowKit Go.Lib

/-- While the square is begun: k rows. -/
structure RefK (w : World) (base : Nat) (wr : World) (g : Nat) (vN vR vD : Value) (names : List ByteArray) (roads : List Rd) (n k : Nat) (us : Nat → Nat) : Prop where
  blk : Blk wr g 122 #[.bool true, vN, vR, vD]
  nm : wr.ownsRow base 9 1 vN names.length (strs names)
  rd : wr.ownsRow base 71 3 vR roads.length (roads.flatMap roadV)
  sq : SqM base wr vD n k us zeroD
  below : Below w.heap.size w wr
  hg : w.heap.size ≤ g
  lt : ∀ i, i < k → us i < wr.heap.size
section
variable {w wr w' : World} {base g n k : Nat} {vN vR vD : Value} {names : List ByteArray} {roads : List Rd} {us : Nat → Nat}
theorem RefK.full (h : RefK w base wr g vN vR vD names roads n n us) : RefW w base wr g vN vR vD names roads n us zeroD := ⟨h.blk, h.nm, h.rd, h.sq, h.below⟩
theorem RefK.later (h : RefK w base wr g vN vR vD names roads n k us) (hb : Below wr.heap.size wr w') : RefK w base w' g vN vR vD names roads n k us :=
  ⟨h.blk.below hb h.blk.lt, own_below h.nm hb, own_below h.rd hb, h.sq.later hb, h.below.trans (hb.mono h.below.size), h.hg, fun i hi => Nat.lt_of_lt_of_le (h.lt i hi) hb.size⟩
theorem RefK.push (h : RefK w base wr g vN vR vD names roads n k us) (hbase : w.heap.size ≤ base) {q : Nat} (hq : Blk wr q 2 (rowA n (zeroD k)).toArray) (hqb : base ≤ q) (hne : ∀ i, i < k → us i ≠ q) {v' : Value} (hg : wr.grownBy w' vD.ownBlock)
    (ho : w'.ownsRow base 113 1 v' (k + 1) (((List.range k).map fun i => .slice (some ⟨us i, 0, none⟩) n n) ++ [.slice (some ⟨q, 0, none⟩) n n])) :
    RefK w base (w'.setCell ⟨g, 3, none⟩ v') g vN vR v' names roads n (k + 1) (fun i => if i = k then q else us i) := by
  have b3 := h.blk.grown hg (fun e => own_blk_ne h.sq.own h.blk (by decide) e.symm)
  have hs := (h.sq.push hq hqb hne hg ho).far (p := ⟨g, 3, none⟩) b3 (by decide) (by decide) v'
  have hbw : Below w.heap.size w w' := h.below.grown hg h.below.size (fun r hr => Nat.le_trans hbase (h.sq.own.lt r hr).1)
  refine ⟨b3.set_ 3 v', (h.nm.kept hg (own_own_ne h.nm h.sq.own (by decide))).kept (grown_setCell w' ⟨g, 3, none⟩ v') (.inr (own_blk_ne (h.nm.kept hg (own_own_ne h.nm h.sq.own (by decide))) b3 (by decide))),
    (h.rd.kept hg (own_own_ne h.rd h.sq.own (by decide))).kept (grown_setCell w' ⟨g, 3, none⟩ v') (.inr (own_blk_ne (h.rd.kept hg (own_own_ne h.rd h.sq.own (by decide))) b3 (by decide))),
    hs.congr (fun i x _ _ => ?_), hbw.setCell (p := ⟨g, 3, none⟩) h.hg v', h.hg, fun i hi => ?_⟩
  · show (if i = k then zeroD k else zeroD i) x = zeroD i x
    by_cases e : i = k
    · rw [if_pos e, e]
    · rw [if_neg e]
  · have h1 : w'.heap.size ≤ (w'.setCell ⟨g, 3, none⟩ v').heap.size := (grown_setCell w' ⟨g, 3, none⟩ v').size
    have h2 := hg.size
    show (if i = k then q else us i) < _
    by_cases e : i = k
    · rw [if_pos e]; have := hq.lt; omega
    · rw [if_neg e]; have := h.lt i (by omega); omega
end
/-- A row of the square while it is filled. -/
def rowF (i j : Nat) : Nat → Int := fun x => if x < j ∧ x ≠ i then -1 else 0
theorem rowF_zero (i n : Nat) : rowA n (fillF 0) = rowA n (rowF i 0) := by
  unfold rowA
  exact List.map_congr_left fun x _ => by unfold fillF rowF; rw [if_neg (Nat.not_lt_zero x), if_neg (fun h => Nat.not_lt_zero x h.1)]
theorem rowF_set {i j : Nat} (h : j ≠ i) : setF (rowF i j) j (-1) = rowF i (j + 1) := by
  funext x
  unfold setF rowF
  by_cases e : x = j
  · rw [if_pos e, if_pos ⟨by omega, by omega⟩]
  · rw [if_neg e]
    by_cases h2 : x < j ∧ x ≠ i
    · rw [if_pos h2, if_pos ⟨by omega, h2.2⟩]
    · rw [if_neg h2, if_neg (by omega)]
theorem rowF_skip {i j : Nat} (h : j = i) : rowF i j = rowF i (j + 1) := by
  funext x
  unfold rowF
  by_cases h2 : x < j ∧ x ≠ i
  · rw [if_pos h2, if_pos ⟨by omega, h2.2⟩]
  · rw [if_neg h2, if_neg (by omega)]
theorem rowF_end (i n : Nat) : rowA n (rowF i n) = rowA n (zeroD i) := by
  unfold rowA
  refine List.map_congr_left fun x hx => ?_
  have hx' := List.mem_range.1 hx
  unfold rowF zeroD
  by_cases e : i = x
  · rw [if_pos e, if_neg (fun h => h.2 e.symm)]
  · rw [if_neg e, if_pos ⟨hx', fun h => e h.symm⟩]
end Go.Proofs.YtgimhjkijpcgjaaDoor
