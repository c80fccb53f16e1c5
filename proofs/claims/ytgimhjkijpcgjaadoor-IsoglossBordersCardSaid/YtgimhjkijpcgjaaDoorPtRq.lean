/-
  layer 36: the reference's New: the names. Conditions: names that can be read, of the reach.
-/
import Derived.Test.YtgimhjkijpcgjaaDoorGar
import Derived.Test.YtgimhjkijpcgjaaDoorGam
import Derived.Deep.QuietTactic
import Derived.BigQuiet
namespace Go.Proofs.YtgimhjkijpcgjaaDoor
open Go.RowKit Go.Lib

theorem nameE_bad {seen : List ByteArray} {s : ByteArray} (h : okName s = false) : nameE seen s = 15 := by unfold nameE; rw [if_pos h]
theorem nameE_has {seen : List ByteArray} {s : ByteArray} (h : okName s = true) (hh : hasName seen s = true) : nameE seen s = 6 := by unfold nameE; rw [if_neg (by rw [h]; decide), if_pos hh]
theorem nameE_ok {seen : List ByteArray} {s : ByteArray} (h : okName s = true) (hh : hasName seen s = false) : nameE seen s = 0 := by unfold nameE; rw [if_neg (by rw [h]; decide), if_neg (by rw [hh]; decide)]
theorem hasName_at {names : List ByteArray} {k j : Nat} (hk : k < names.length) (hj : j < k) (h : (names[j]'(by omega)).data.toList = names[k].data.toList) : hasName (names.take k) names[k] = true := by
  unfold hasName
  rw [List.any_eq_true]
  refine ⟨names[j]'(by omega), ?_, by simpa using h⟩
  rw [List.mem_iff_getElem]
  exact ⟨j, by rw [List.length_take]; omega, by rw [List.getElem_take]⟩
theorem hasName_no {names : List ByteArray} {k : Nat} (hk : k < names.length) (h : ∀ j, j < k → ∀ (hl : j < names.length), ¬ names[j].data.toList = names[k].data.toList) : hasName (names.take k) names[k] = false := by
  unfold hasName
  rw [List.any_eq_false]
  intro x hx
  obtain ⟨j, hj, rfl⟩ := List.getElem_of_mem hx
  rw [List.length_take] at hj
  rw [List.getElem_take]
  simpa using h j (by omega) (by omega)
noncomputable def rnBody1 : Code := loopAt Tryd.f43 0
set_option linter.unusedSimpArgs false in
set_option linter.unusedVariables false in
set_option maxRecDepth 40000 in
set_option maxHeartbeats 100000000 in
theorem rn_names (Q0 : Exit → Act → World → Prop) (w W0 : World) (n c : Nat) (A : Option Addr) (names : List ByteArray)
    (c1 c2 c3 c4 c5 c7 c8 c9 c10 c11 c12 c13 c14 c15 c16 c17 c18 c19 c20 c21 c22 c23 c24 c25 c26 c27 c28 c29 c30 c31 c32 c33 c34 c35 c36 c37 c38 c39 c40 c41 c42 c43 c44 c45 c46 c47 c48 c49 c50 c51 c52 c53 c54 c55 c56 c57 c58 c59 c60 c61 c62 c63 c64 c65 c66 c67 c68 c69 c70 c71 c72 c73 c74 c75 c76 c77 c78 c79 c80 c81 c82 c83 c84 c85 c86 c87 c88 c89 c90 c91 c92 c93 c94 c95 c96 c97 c98 c99 c100 c101 c102 c103 c104 c105 c106 c107 c108 c109 c110 c111 c112 c113 c114 c115 c116 c117 c118 c119 c120 c121 c122 c123 c124 c125 c126 c127 c128 c129 c130 c131 c132 c133 c134 c135 c136 c137 c138 c139 c140 c141 c142 c143 c144 c145 c146 c147 c148 c149 c150 c151 c152 c153 c154 c155 c156 c157 c158 c159 c160 c161 c162 c163 c164 c165 c166 c167 c168 c169 c170 c171 c172 c173 c174 c175 c176 c177 c178 c179 c180 c181 c182 c183 c184 c185 c186 c187 c188 c189 c190 c191 c192 c193 c194 c195 c196 c197 c198 c199 c200 c201 c202 c203 c204 c205 c206 c207 c208 c209 c210 c211 c212 c213 c214 c215 c216 c217 c218 c219 c220 c221 c222 c223 c224 c225 c226 c227 c228 c229 c230 c231 c232 c233 c234 c235 c236 c237 c238 c239 c240 c241 c242 c243 c244 c245 c246 c247 c248 c249 c250 c251 c252 c253 c254 c255 c256 c257 c258 c259 c260 c261 c262 c263 c264 c265 c266 c267 c268 c269 c270 c271 c272 c273 c274 c275 c276 c277 c278 c279 c280 c281 c282 c283 c284 c285 c286 c287 c288 c289 c290 c291 c292 c293 c294 c295 c296 c297 c298 c299 c300 c301 c302 c303 c304 c305 c306 c307 c308 c309 c310 c311 c312 c313 c314 c315 c316 c317 c318 c319 c320 c321 c322 c323 c324 : Value)
    (hN : ReadS w w.heap.size A n names) (hs : ∀ s ∈ names, s.size ≤ maxLen) (hn128 : n ≤ 128) (hW : Below w.heap.size w W0)
    (hret : ∀ (d6 d7 d29 d30 d31 d32 d33 d34 d35 d36 d37 d38 d39 d40 d41 d42 d43 d44 d45 d46 d47 d48 d49 d50 d51 d52 d53 d54 : Value) (e : Int) (wr : World), Below w.heap.size w wr → e ≠ 0 → namesE [] names = e → Q0 .ret ⟨List.toArray (.slice A n c :: c1 :: c2 :: c3 :: .pointer none :: .int .i64 e :: d6 :: d7 :: c8 :: c9 :: c10 :: c11 :: c12 :: c13 :: c14 :: c15 :: c16 :: c17 :: c18 :: c19 :: c20 :: c21 :: c22 :: c23 :: c24 :: c25 :: c26 :: c27 :: c28 :: d29 :: d30 :: d31 :: d32 :: d33 :: d34 :: d35 :: d36 :: d37 :: d38 :: d39 :: d40 :: d41 :: d42 :: d43 :: d44 :: d45 :: d46 :: d47 :: d48 :: d49 :: d50 :: d51 :: d52 :: d53 :: d54 :: c55 :: c56 :: c57 :: c58 :: c59 :: c60 :: c61 :: c62 :: c63 :: c64 :: c65 :: c66 :: c67 :: c68 :: c69 :: c70 :: c71 :: c72 :: c73 :: c74 :: c75 :: c76 :: c77 :: c78 :: c79 :: c80 :: c81 :: c82 :: c83 :: c84 :: c85 :: c86 :: c87 :: c88 :: c89 :: c90 :: c91 :: c92 :: c93 :: c94 :: c95 :: c96 :: c97 :: c98 :: c99 :: c100 :: c101 :: c102 :: c103 :: c104 :: c105 :: c106 :: c107 :: c108 :: c109 :: c110 :: c111 :: c112 :: c113 :: c114 :: c115 :: c116 :: c117 :: c118 :: c119 :: c120 :: c121 :: c122 :: c123 :: c124 :: c125 :: c126 :: c127 :: c128 :: c129 :: c130 :: c131 :: c132 :: c133 :: c134 :: c135 :: c136 :: c137 :: c138 :: c139 :: c140 :: c141 :: c142 :: c143 :: c144 :: c145 :: c146 :: c147 :: c148 :: c149 :: c150 :: c151 :: c152 :: c153 :: c154 :: c155 :: c156 :: c157 :: c158 :: c159 :: c160 :: c161 :: c162 :: c163 :: c164 :: c165 :: c166 :: c167 :: c168 :: c169 :: c170 :: c171 :: c172 :: c173 :: c174 :: c175 :: c176 :: c177 :: c178 :: c179 :: c180 :: c181 :: c182 :: c183 :: c184 :: c185 :: c186 :: c187 :: c188 :: c189 :: c190 :: c191 :: c192 :: c193 :: c194 :: c195 :: c196 :: c197 :: c198 :: c199 :: c200 :: c201 :: c202 :: c203 :: c204 :: c205 :: c206 :: c207 :: c208 :: c209 :: c210 :: c211 :: c212 :: c213 :: c214 :: c215 :: c216 :: c217 :: c218 :: c219 :: c220 :: c221 :: c222 :: c223 :: c224 :: c225 :: c226 :: c227 :: c228 :: c229 :: c230 :: c231 :: c232 :: c233 :: c234 :: c235 :: c236 :: c237 :: c238 :: c239 :: c240 :: c241 :: c242 :: c243 :: c244 :: c245 :: c246 :: c247 :: c248 :: c249 :: c250 :: c251 :: c252 :: c253 :: c254 :: c255 :: c256 :: c257 :: c258 :: c259 :: c260 :: c261 :: c262 :: c263 :: c264 :: c265 :: c266 :: c267 :: c268 :: c269 :: c270 :: c271 :: c272 :: c273 :: c274 :: c275 :: c276 :: c277 :: c278 :: c279 :: c280 :: c281 :: c282 :: c283 :: c284 :: c285 :: c286 :: c287 :: c288 :: c289 :: c290 :: c291 :: c292 :: c293 :: c294 :: c295 :: c296 :: c297 :: c298 :: c299 :: c300 :: c301 :: c302 :: c303 :: c304 :: c305 :: c306 :: c307 :: c308 :: c309 :: c310 :: c311 :: c312 :: c313 :: c314 :: c315 :: c316 :: c317 :: c318 :: c319 :: c320 :: c321 :: c322 :: c323 :: c324 :: []), []⟩ wr)
    (hexit : ∀ (d4 d5 d6 d7 d29 d30 d31 d32 d33 d34 d35 d36 d37 d38 d39 d40 d41 d42 d43 d44 d45 d46 d47 d48 d49 d50 d51 d52 d53 d54 : Value) (wr : World), Below w.heap.size w wr → namesE [] names = 0 → Q0 (.exit 0) ⟨List.toArray (.slice A n c :: c1 :: c2 :: c3 :: d4 :: d5 :: d6 :: d7 :: c8 :: c9 :: c10 :: c11 :: c12 :: c13 :: c14 :: c15 :: c16 :: c17 :: c18 :: c19 :: c20 :: c21 :: c22 :: c23 :: c24 :: c25 :: c26 :: c27 :: c28 :: d29 :: d30 :: d31 :: d32 :: d33 :: d34 :: d35 :: d36 :: d37 :: d38 :: d39 :: d40 :: d41 :: d42 :: d43 :: d44 :: d45 :: d46 :: d47 :: d48 :: d49 :: d50 :: d51 :: d52 :: d53 :: d54 :: c55 :: c56 :: c57 :: c58 :: c59 :: c60 :: c61 :: c62 :: c63 :: c64 :: c65 :: c66 :: c67 :: c68 :: c69 :: c70 :: c71 :: c72 :: c73 :: c74 :: c75 :: c76 :: c77 :: c78 :: c79 :: c80 :: c81 :: c82 :: c83 :: c84 :: c85 :: c86 :: c87 :: c88 :: c89 :: c90 :: c91 :: c92 :: c93 :: c94 :: c95 :: c96 :: c97 :: c98 :: c99 :: c100 :: c101 :: c102 :: c103 :: c104 :: c105 :: c106 :: c107 :: c108 :: c109 :: c110 :: c111 :: c112 :: c113 :: c114 :: c115 :: c116 :: c117 :: c118 :: c119 :: c120 :: c121 :: c122 :: c123 :: c124 :: c125 :: c126 :: c127 :: c128 :: c129 :: c130 :: c131 :: c132 :: c133 :: c134 :: c135 :: c136 :: c137 :: c138 :: c139 :: c140 :: c141 :: c142 :: c143 :: c144 :: c145 :: c146 :: c147 :: c148 :: c149 :: c150 :: c151 :: c152 :: c153 :: c154 :: c155 :: c156 :: c157 :: c158 :: c159 :: c160 :: c161 :: c162 :: c163 :: c164 :: c165 :: c166 :: c167 :: c168 :: c169 :: c170 :: c171 :: c172 :: c173 :: c174 :: c175 :: c176 :: c177 :: c178 :: c179 :: c180 :: c181 :: c182 :: c183 :: c184 :: c185 :: c186 :: c187 :: c188 :: c189 :: c190 :: c191 :: c192 :: c193 :: c194 :: c195 :: c196 :: c197 :: c198 :: c199 :: c200 :: c201 :: c202 :: c203 :: c204 :: c205 :: c206 :: c207 :: c208 :: c209 :: c210 :: c211 :: c212 :: c213 :: c214 :: c215 :: c216 :: c217 :: c218 :: c219 :: c220 :: c221 :: c222 :: c223 :: c224 :: c225 :: c226 :: c227 :: c228 :: c229 :: c230 :: c231 :: c232 :: c233 :: c234 :: c235 :: c236 :: c237 :: c238 :: c239 :: c240 :: c241 :: c242 :: c243 :: c244 :: c245 :: c246 :: c247 :: c248 :: c249 :: c250 :: c251 :: c252 :: c253 :: c254 :: c255 :: c256 :: c257 :: c258 :: c259 :: c260 :: c261 :: c262 :: c263 :: c264 :: c265 :: c266 :: c267 :: c268 :: c269 :: c270 :: c271 :: c272 :: c273 :: c274 :: c275 :: c276 :: c277 :: c278 :: c279 :: c280 :: c281 :: c282 :: c283 :: c284 :: c285 :: c286 :: c287 :: c288 :: c289 :: c290 :: c291 :: c292 :: c293 :: c294 :: c295 :: c296 :: c297 :: c298 :: c299 :: c300 :: c301 :: c302 :: c303 :: c304 :: c305 :: c306 :: c307 :: c308 :: c309 :: c310 :: c311 :: c312 :: c313 :: c314 :: c315 :: c316 :: c317 :: c318 :: c319 :: c320 :: c321 :: c322 :: c323 :: c324 :: []), []⟩ wr) :
    Code.wp Tryd.prog (.loop rnBody1) Q0 ⟨List.toArray (.slice A n c :: c1 :: c2 :: c3 :: c4 :: c5 :: .int .i64 0 :: c7 :: c8 :: c9 :: c10 :: c11 :: c12 :: c13 :: c14 :: c15 :: c16 :: c17 :: c18 :: c19 :: c20 :: c21 :: c22 :: c23 :: c24 :: c25 :: c26 :: c27 :: c28 :: c29 :: c30 :: c31 :: c32 :: c33 :: c34 :: c35 :: c36 :: c37 :: c38 :: c39 :: c40 :: c41 :: c42 :: c43 :: c44 :: c45 :: c46 :: c47 :: c48 :: c49 :: c50 :: c51 :: c52 :: c53 :: c54 :: c55 :: c56 :: c57 :: c58 :: c59 :: c60 :: c61 :: c62 :: c63 :: c64 :: c65 :: c66 :: c67 :: c68 :: c69 :: c70 :: c71 :: c72 :: c73 :: c74 :: c75 :: c76 :: c77 :: c78 :: c79 :: c80 :: c81 :: c82 :: c83 :: c84 :: c85 :: c86 :: c87 :: c88 :: c89 :: c90 :: c91 :: c92 :: c93 :: c94 :: c95 :: c96 :: c97 :: c98 :: c99 :: c100 :: c101 :: c102 :: c103 :: c104 :: c105 :: c106 :: c107 :: c108 :: c109 :: c110 :: c111 :: c112 :: c113 :: c114 :: c115 :: c116 :: c117 :: c118 :: c119 :: c120 :: c121 :: c122 :: c123 :: c124 :: c125 :: c126 :: c127 :: c128 :: c129 :: c130 :: c131 :: c132 :: c133 :: c134 :: c135 :: c136 :: c137 :: c138 :: c139 :: c140 :: c141 :: c142 :: c143 :: c144 :: c145 :: c146 :: c147 :: c148 :: c149 :: c150 :: c151 :: c152 :: c153 :: c154 :: c155 :: c156 :: c157 :: c158 :: c159 :: c160 :: c161 :: c162 :: c163 :: c164 :: c165 :: c166 :: c167 :: c168 :: c169 :: c170 :: c171 :: c172 :: c173 :: c174 :: c175 :: c176 :: c177 :: c178 :: c179 :: c180 :: c181 :: c182 :: c183 :: c184 :: c185 :: c186 :: c187 :: c188 :: c189 :: c190 :: c191 :: c192 :: c193 :: c194 :: c195 :: c196 :: c197 :: c198 :: c199 :: c200 :: c201 :: c202 :: c203 :: c204 :: c205 :: c206 :: c207 :: c208 :: c209 :: c210 :: c211 :: c212 :: c213 :: c214 :: c215 :: c216 :: c217 :: c218 :: c219 :: c220 :: c221 :: c222 :: c223 :: c224 :: c225 :: c226 :: c227 :: c228 :: c229 :: c230 :: c231 :: c232 :: c233 :: c234 :: c235 :: c236 :: c237 :: c238 :: c239 :: c240 :: c241 :: c242 :: c243 :: c244 :: c245 :: c246 :: c247 :: c248 :: c249 :: c250 :: c251 :: c252 :: c253 :: c254 :: c255 :: c256 :: c257 :: c258 :: c259 :: c260 :: c261 :: c262 :: c263 :: c264 :: c265 :: c266 :: c267 :: c268 :: c269 :: c270 :: c271 :: c272 :: c273 :: c274 :: c275 :: c276 :: c277 :: c278 :: c279 :: c280 :: c281 :: c282 :: c283 :: c284 :: c285 :: c286 :: c287 :: c288 :: c289 :: c290 :: c291 :: c292 :: c293 :: c294 :: c295 :: c296 :: c297 :: c298 :: c299 :: c300 :: c301 :: c302 :: c303 :: c304 :: c305 :: c306 :: c307 :: c308 :: c309 :: c310 :: c311 :: c312 :: c313 :: c314 :: c315 :: c316 :: c317 :: c318 :: c319 :: c320 :: c321 :: c322 :: c323 :: c324 :: []), []⟩ W0 := by
  unfold rnBody1
  conv => arg 2; arg 1; whnf
  have hnl := hN.len
  have HN := Lib.hid hN; have HS := Lib.hid hs; have HW := Lib.hid hW; have HRET := Lib.hid hret; have HEX := Lib.hid hexit; have HNL := Lib.hid hnl
  clear hN hs hW hret hexit hnl
  go_loopw [6] (fun i wr => ∃ k : Nat, k ≤ n ∧ i = .int .i64 k ∧ namesE [] names = namesE (names.take k) (names.drop k) ∧ Below w.heap.size w wr) (fun i _ => n - (intOf i).toNat)
  case atStart => exact ⟨0, by omega, rfl, rfl, HW.out⟩
  case round =>
    obtain ⟨k, hk, rfl, hne, hb⟩ := hrel
    have HNE := Lib.hid hne; have HB := Lib.hid hb
    clear hne hb
    by_cases hlt : k < n
    · have hkl : k < names.length := by rw [HNL.out]; exact hlt
      obtain ⟨ad, rfl, had, hcx⟩ := ReadS.at_ (k := k) HN.out hkl
      have hkI : (k : Int) < (n : Int) := by omega
      have hst := names_step names k hkl
      have hsz := HS.out names[k] (List.getElem_mem hkl)
      obtain ⟨x, hx⟩ : ∃ x, names[k] = x := ⟨_, rfl⟩
      rw [hx] at hcx hsz hst
      have hcw : ∀ W, Below w.heap.size w W → W.cell? (ad.add k) = some (.string x) := fun W hW => (hW.cell (by rw [block_of_add]; exact had)).trans hcx
      have hbad : ∀ v, v ≠ 0 → nameE (names.take k) x = v → namesE [] names = v := fun v h0 hv => by rw [HNE.out, hst, if_neg (by rw [hv]; exact h0), hv]
      have hgood : nameE (names.take k) x = 0 → namesE [] names = namesE (names.take (k + 1)) (names.drop (k + 1)) := fun h => by rw [HNE.out, hst, if_pos h]
      have hok := refname_any x wr hsz
      have HCW := Lib.hid hcw; have HBAD := Lib.hid hbad; have HGOOD := Lib.hid hgood; have HX := Lib.hid hx
      have c1 := HCW.out wr HB.out
      clear hst hcx hcw hbad hgood hx
      cases hname : okName x with
      | false =>
        rw [hname] at hok
        go_wp2_with fail
        refine hok.mono ?_
        rintro e w' ⟨rfl, rfl⟩
        go_wp2
        exact HRET.out _ _ _ _ _ _ _ _ _ _ _ _ _ _ _ _ _ _ _ _ _ _ _ _ _ _ _ _ 15 _ HB.out (by decide) (HBAD.out 15 (by decide) (nameE_bad hname))
      | true =>
        rw [hname] at hok
        have HNM := Lib.hid hname
        clear hname
        go_wp2_with fail
        refine hok.mono ?_
        rintro e w' ⟨rfl, rfl⟩
        clear hok
        go_wp2
        go_loopw [7] (fun i wx => ∃ j : Nat, j ≤ k ∧ i = .int .i64 j ∧ (∀ t (ht : t < j) (hl : t < names.length), ¬ names[t].data.toList = x.data.toList) ∧ Below w.heap.size w wx) (fun i _ => k - (intOf i).toNat)
        case atStart => exact ⟨0, by omega, rfl, (fun t ht => absurd ht (Nat.not_lt_zero t)), HB.out⟩
        case round =>
          obtain ⟨j, hj, rfl, hall, hb⟩ := hrel
          have HALL := Lib.hid hall; have HB2 := Lib.hid hb
          clear hall hb c1
          have c1 := HCW.out wr HB2.out
          by_cases hltj : j < k
          · have hjl : j < names.length := by omega
            have hjI : (j : Int) < (k : Int) := by omega
            have hjI2 : (j : Int) < (n : Int) := by omega
            obtain ⟨ad', had', hab, hcy⟩ := ReadS.at_ (k := j) HN.out hjl
            obtain rfl := Option.some.inj had'
            obtain ⟨y, hy⟩ : ∃ y, names[j] = y := ⟨_, rfl⟩
            rw [hy] at hcy
            have c2 := (HB2.out.cell (p := ad.add j) (by rw [block_of_add]; exact hab)).trans hcy
            have HY := Lib.hid hy
            clear hcy hab had' hy
            by_cases he : y.data.toList = x.data.toList
            · have e : y = x := Go.WideShapes.bytes_inj he
              have hh : hasName (names.take k) x = true := by
                have := hasName_at hkl hltj (by rw [HY.out, HX.out]; exact he)
                rwa [HX.out] at this
              have HH := Lib.hid hh
              subst e
              clear hh he
              go_wp2_with fail
              go_quiet (fail)
              go_wp2
              exact HRET.out _ _ _ _ _ _ _ _ _ _ _ _ _ _ _ _ _ _ _ _ _ _ _ _ _ _ _ _ 6 _ (HB2.out.trans (below_drewN _ _ _)) (by decide) (HBAD.out 6 (by decide) (nameE_has HNM.out HH.out))
            · have hne : (y.toList == x.toList) = false := by rw [beq_eq_false_iff_ne, Lib.toList_data, Lib.toList_data]; exact he
              have HE := Lib.hid he
              clear he
              go_wp2_with fail
              go_quiet (fail)
              go_wp2
              go_roundw
              case rel =>
                refine ⟨j + 1, by omega, by go_num, fun t ht hl => ?_, HB2.out.trans (below_drewN _ _ _)⟩
                rcases Nat.lt_or_ge t j with h | h
                · exact HALL.out t h hl
                · obtain rfl : t = j := by omega
                  rw [HY.out]; exact HE.out
              case measure => simp [intOf]; omega
          · obtain rfl : j = k := by omega
            have hh : hasName (names.take j) x = false := by
              have := hasName_no hkl (fun t ht hl => by rw [HX.out]; exact HALL.out t ht hl)
              rwa [HX.out] at this
            have hz := HGOOD.out (nameE_ok HNM.out hh)
            have HZ := Lib.hid hz
            clear hh hz
            go_wp2
            go_roundw
            case rel => exact ⟨j + 1, by omega, by go_num, HZ.out, HB2.out⟩
            case measure => simp [intOf]; omega
    · obtain rfl : k = n := by omega
      have hz : namesE [] names = 0 := by
        rw [HNE.out, List.drop_of_length_le (by rw [HNL.out]; exact Nat.le_refl _)]; rfl
      have HZ := Lib.hid hz
      clear hz
      go_wp2
      exact HEX.out _ _ _ _ _ _ _ _ _ _ _ _ _ _ _ _ _ _ _ _ _ _ _ _ _ _ _ _ _ _ _ HB.out HZ.out
end Go.Proofs.YtgimhjkijpcgjaaDoor
