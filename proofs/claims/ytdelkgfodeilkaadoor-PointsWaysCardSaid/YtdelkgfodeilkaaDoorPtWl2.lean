/-
  PointsWays: its loop 2 (over the roads: the length of the road that joins two points), as a theorem of its own. Conditions: the cells that it reads.
-/
import Derived.Test.YtdelkgfodeilkaaDoorPtRd
import Derived.Test.YtdelkgfodeilkaaDoorLoopAt
import Derived.Deep.QuietTactic
import Derived.BigQuiet
namespace Go.Proofs.YtdelkgfodeilkaaDoor
open Go.RowKit Go.Lib
noncomputable def waysBody2 : Code := loopAt Tryd.f7 1
set_option linter.unusedSimpArgs false in
set_option linter.unusedVariables false in
set_option maxRecDepth 40000 in
set_option maxHeartbeats 8000000 in
theorem ways_loop2 (Q0 : Exit → Act → World → Prop) (w W0 : World) (B : Option Addr) (m k b0 : Nat) (roads : List Rd) (u v : Nat) (q L c2 t : Nat)
    (c0 c1 c3 c4 c5 c6 c7 c8 c10 c11 c12 c16 c17 c18 c19 c20 c21 c22 c23 c24 c25 c26 c27 c28 c29 c30 c31 c32 c33 c34 c35 c36 c37 c38 c39 c40 c41 c42 c43 c44 c45 c46 c47 c48 c49 c50 c51 c52 c53 c54 c55 c56 c57 c58 c59 c60 c61 c62 c63 c64 c65 c66 c67 c68 c69 c70 c71 c72 c73 c74 c75 c76 c77 c78 c79 c80 c81 c82 c83 c84 c85 c86 c87 c88 c89 c90 c91 c92 c93 c94 c95 c96 c97 c98 c99 c100 c101 c102 c103 c104 c105 c106 c107 c108 c109 c110 c111 c112 c113 c114 c115 c116 c117 c118 c119 c120 c121 c122 c123 c124 c125 c126 c127 c128 c129 c130 c131 c132 c133 c134 c135 c136 c137 c138 c139 c140 c141 c142 c143 c144 c145 c146 c147 c148 c149 c150 c151 c152 c153 c154 c155 c156 c157 c158 c159 c160 c161 c162 c163 c164 c165 c166 c167 c168 c169 c170 c171 c172 c173 c174 c175 c176 c177 c178 c179 c180 c181 c182 c183 c184 c185 c186 c187 c188 c189 c190 c191 c192 c193 c194 c195 c196 c197 c198 c199 c200 c201 c202 c203 c204 c205 c206 c207 c208 c209 c210 c211 c212 c213 c214 c215 c216 c217 c218 c219 c220 c221 c222 c223 c224 c225 c226 c227 c228 c229 c230 c231 c232 c233 c234 c235 c236 c237 c238 c239 c240 c241 c242 c243 c244 c245 c246 c247 c248 c249 c250 c251 c252 c253 c254 c255 c256 c257 c258 c259 c260 c261 c262 c263 c264 c265 c266 c267 c268 c269 c270 c271 c272 c273 c274 c275 c276 c277 c278 c279 c280 : Value)
    (hR : Reads w w.heap.size 3 B m (roads.flatMap roadV)) (hrl : roads.length = m) (hm512 : m ≤ 512) (hW : Below w.heap.size w W0) (hok : ∀ x ∈ roads, x.1 ≠ x.2.1)
    (hc11 : ∀ W, Below W0.heap.size W0 W → W.cell? ⟨b0, 1, none⟩ = some (.slice B m k))
    (hcu : ∀ W, Below W0.heap.size W0 W → W.cell? ⟨q, t, none⟩ = some (.int .i64 (u : Nat))) (hcv : ∀ W, Below W0.heap.size W0 W → W.cell? ⟨q, t + 1, none⟩ = some (.int .i64 (v : Nat)))
    (htI : (t : Int) + 1 < (L : Int)) (htI3 : (t : Int) < (L : Int)) (ht0 : (0 : Int) ≤ (t : Int) + 1) (htn : ((t : Int) + 1).toNat = t + 1) (htb : L ≤ 128)
    (hexit : ∀ (d16 d114 d115 d116 d117 d118 d119 d120 d121 d122 d123 d124 d125 d126 d127 d128 d129 d130 d131 d132 d133 d134 d135 d136 d137 d138 d139 d140 d141 d142 d143 d144 d145 d146 d147 d148 d149 d150 d151 d152 d153 d154 d155 d156 d157 d158 d159 d160 d161 d162 d163 : Value) (wr : World), Below W0.heap.size W0 wr → Q0 (.exit 2) ⟨List.toArray (c0 :: c1 :: .pointer (some ⟨b0, 0, none⟩) :: c3 :: c4 :: c5 :: c6 :: c7 :: c8 :: .slice (some ⟨q, 0, none⟩) L c2 :: c10 :: c11 :: c12 :: .int .i64 ((t : Int) + 1) :: .int .i64 (lenR roads m (u : Int) (v : Int)) :: .int .i64 (m : Nat) :: d16 :: c17 :: c18 :: c19 :: c20 :: c21 :: c22 :: c23 :: c24 :: c25 :: c26 :: c27 :: c28 :: c29 :: c30 :: c31 :: c32 :: c33 :: c34 :: c35 :: c36 :: c37 :: c38 :: c39 :: c40 :: c41 :: c42 :: c43 :: c44 :: c45 :: c46 :: c47 :: c48 :: c49 :: c50 :: c51 :: c52 :: c53 :: c54 :: c55 :: c56 :: c57 :: c58 :: c59 :: c60 :: c61 :: c62 :: c63 :: c64 :: c65 :: c66 :: c67 :: c68 :: c69 :: c70 :: c71 :: c72 :: c73 :: c74 :: c75 :: c76 :: c77 :: c78 :: c79 :: c80 :: c81 :: c82 :: c83 :: c84 :: c85 :: c86 :: c87 :: c88 :: c89 :: c90 :: c91 :: c92 :: c93 :: c94 :: c95 :: c96 :: c97 :: c98 :: c99 :: c100 :: c101 :: c102 :: c103 :: c104 :: c105 :: c106 :: c107 :: c108 :: c109 :: c110 :: c111 :: c112 :: c113 :: d114 :: d115 :: d116 :: d117 :: d118 :: d119 :: d120 :: d121 :: d122 :: d123 :: d124 :: d125 :: d126 :: d127 :: d128 :: d129 :: d130 :: d131 :: d132 :: d133 :: d134 :: d135 :: d136 :: d137 :: d138 :: d139 :: d140 :: d141 :: d142 :: d143 :: d144 :: d145 :: d146 :: d147 :: d148 :: d149 :: d150 :: d151 :: d152 :: d153 :: d154 :: d155 :: d156 :: d157 :: d158 :: d159 :: d160 :: d161 :: d162 :: d163 :: c164 :: c165 :: c166 :: c167 :: c168 :: c169 :: c170 :: c171 :: c172 :: c173 :: c174 :: c175 :: c176 :: c177 :: c178 :: c179 :: c180 :: c181 :: c182 :: c183 :: c184 :: c185 :: c186 :: c187 :: c188 :: c189 :: c190 :: c191 :: c192 :: c193 :: c194 :: c195 :: c196 :: c197 :: c198 :: c199 :: c200 :: c201 :: c202 :: c203 :: c204 :: c205 :: c206 :: c207 :: c208 :: c209 :: c210 :: c211 :: c212 :: c213 :: c214 :: c215 :: c216 :: c217 :: c218 :: c219 :: c220 :: c221 :: c222 :: c223 :: c224 :: c225 :: c226 :: c227 :: c228 :: c229 :: c230 :: c231 :: c232 :: c233 :: c234 :: c235 :: c236 :: c237 :: c238 :: c239 :: c240 :: c241 :: c242 :: c243 :: c244 :: c245 :: c246 :: c247 :: c248 :: c249 :: c250 :: c251 :: c252 :: c253 :: c254 :: c255 :: c256 :: c257 :: c258 :: c259 :: c260 :: c261 :: c262 :: c263 :: c264 :: c265 :: c266 :: c267 :: c268 :: c269 :: c270 :: c271 :: c272 :: c273 :: c274 :: c275 :: c276 :: c277 :: c278 :: c279 :: c280 :: []), []⟩ wr) :
    Code.wp Tryd.prog (.loop waysBody2) Q0 ⟨List.toArray (c0 :: c1 :: .pointer (some ⟨b0, 0, none⟩) :: c3 :: c4 :: c5 :: c6 :: c7 :: c8 :: .slice (some ⟨q, 0, none⟩) L c2 :: c10 :: c11 :: c12 :: .int .i64 ((t : Int) + 1) :: .int .i64 0 :: .int .i64 0 :: c16 :: c17 :: c18 :: c19 :: c20 :: c21 :: c22 :: c23 :: c24 :: c25 :: c26 :: c27 :: c28 :: c29 :: c30 :: c31 :: c32 :: c33 :: c34 :: c35 :: c36 :: c37 :: c38 :: c39 :: c40 :: c41 :: c42 :: c43 :: c44 :: c45 :: c46 :: c47 :: c48 :: c49 :: c50 :: c51 :: c52 :: c53 :: c54 :: c55 :: c56 :: c57 :: c58 :: c59 :: c60 :: c61 :: c62 :: c63 :: c64 :: c65 :: c66 :: c67 :: c68 :: c69 :: c70 :: c71 :: c72 :: c73 :: c74 :: c75 :: c76 :: c77 :: c78 :: c79 :: c80 :: c81 :: c82 :: c83 :: c84 :: c85 :: c86 :: c87 :: c88 :: c89 :: c90 :: c91 :: c92 :: c93 :: c94 :: c95 :: c96 :: c97 :: c98 :: c99 :: c100 :: c101 :: c102 :: c103 :: c104 :: c105 :: c106 :: c107 :: c108 :: c109 :: c110 :: c111 :: c112 :: c113 :: c114 :: c115 :: c116 :: c117 :: c118 :: c119 :: c120 :: c121 :: c122 :: c123 :: c124 :: c125 :: c126 :: c127 :: c128 :: c129 :: c130 :: c131 :: c132 :: c133 :: c134 :: c135 :: c136 :: c137 :: c138 :: c139 :: c140 :: c141 :: c142 :: c143 :: c144 :: c145 :: c146 :: c147 :: c148 :: c149 :: c150 :: c151 :: c152 :: c153 :: c154 :: c155 :: c156 :: c157 :: c158 :: c159 :: c160 :: c161 :: c162 :: c163 :: c164 :: c165 :: c166 :: c167 :: c168 :: c169 :: c170 :: c171 :: c172 :: c173 :: c174 :: c175 :: c176 :: c177 :: c178 :: c179 :: c180 :: c181 :: c182 :: c183 :: c184 :: c185 :: c186 :: c187 :: c188 :: c189 :: c190 :: c191 :: c192 :: c193 :: c194 :: c195 :: c196 :: c197 :: c198 :: c199 :: c200 :: c201 :: c202 :: c203 :: c204 :: c205 :: c206 :: c207 :: c208 :: c209 :: c210 :: c211 :: c212 :: c213 :: c214 :: c215 :: c216 :: c217 :: c218 :: c219 :: c220 :: c221 :: c222 :: c223 :: c224 :: c225 :: c226 :: c227 :: c228 :: c229 :: c230 :: c231 :: c232 :: c233 :: c234 :: c235 :: c236 :: c237 :: c238 :: c239 :: c240 :: c241 :: c242 :: c243 :: c244 :: c245 :: c246 :: c247 :: c248 :: c249 :: c250 :: c251 :: c252 :: c253 :: c254 :: c255 :: c256 :: c257 :: c258 :: c259 :: c260 :: c261 :: c262 :: c263 :: c264 :: c265 :: c266 :: c267 :: c268 :: c269 :: c270 :: c271 :: c272 :: c273 :: c274 :: c275 :: c276 :: c277 :: c278 :: c279 :: c280 :: []), []⟩ W0 := by
  unfold waysBody2
  conv => arg 2; arg 1; whnf
  have HR0 := Lib.hid hR; have HRL := Lib.hid hrl; have HB := Lib.hid hW; have HOK := Lib.hid hok; have HC11 := Lib.hid hc11; have HCU := Lib.hid hcu; have HCV := Lib.hid hcv; have HEX := Lib.hid hexit
  clear hR hrl hW hok hc11 hcu hcv hexit
  go_loopw [14, 15] (fun s i wr => ∃ j : Nat, j ≤ m ∧ s = .int .i64 (lenR roads j (u : Int) (v : Int)) ∧ i = .int .i64 j ∧ Below W0.heap.size W0 wr) (fun _ i _ => m - (intOf i).toNat)
  case atStart => exact ⟨0, by omega, rfl, rfl, Below.refl _ _⟩
  case round =>
    obtain ⟨j, hj, rfl, rfl, hbr⟩ := hrel
    have HBR := Lib.hid hbr
    have c11r := HC11.out wr hbr
    clear hbr
    by_cases hltj : j < m
    · have hjl : j < roads.length := by rw [HRL.out]; exact hltj
      obtain ⟨bd, x1, x2, x3, rfl, ex, hc0, hc1, hc2⟩ := road_cells HR0.out HRL.out (HB.out.trans (HBR.out.mono HB.out.size)) hjl
      have hls := lenR_succ hjl (u : Int) (v : Int)
      have hne := HOK.out _ (List.getElem_mem hjl)
      rw [ex] at hls hne
      simp only at hne
      have hxb := Blk.new wr 43 #[.int .i64 x1, .int .i64 x2, .int .i64 x3]
      have hbx : Below W0.heap.size W0 (wr.alloc (.cells #[.int .i64 x1, .int .i64 x2, .int .i64 x3] 43)) := HBR.out.trans (((Below.refl _ wr).alloc (Nat.le_refl _) _).mono HBR.out.size)
      have x0 := hxb.cell 0; have x1c := hxb.cell 1; have x2c := hxb.cell 2
      simp only [List.getElem?_toArray, List.getElem?_cons_zero, List.getElem?_cons_succ] at x0 x1c x2c
      have HBX := Lib.hid hbx; have HLS := Lib.hid hls
      have hwt : IntKind.i64.wrap (t : Int) = (t : Int) := by rw [IntKind.wrap_i64]; omega
      have cu := HCU.out _ hbx; have cv := HCV.out _ hbx
      have hjI : (j : Int) < (m : Int) := by omega
      clear hxb hbx ex hls HEX HC11 HCU HCV HB HOK HR0 HRL
      go_wp2_with fail
      clear hc0 hc1 hc2 c11r
      by_cases g1 : x1 = (u : Int)
      · subst g1
        by_cases g2 : x2 = (v : Int)
        · subst g2
          have hv : lenR roads (j + 1) (u : Int) (v : Int) = x3 := by rw [HLS.out]; unfold joins; simp
          as_aux_lemma =>
            have HV := Lib.hid hv
            clear hv
            go_quiet (fail)
            go_wp2
            go_roundw
            case rel => exact ⟨j + 1, by omega, by rw [HV.out], by go_num, HBX.out.trans (below_drewN _ _ _)⟩
            case measure => simp [intOf]; omega
        · have g3 : ¬ x2 = (u : Int) := fun e => hne e.symm
          have hv : lenR roads (j + 1) (u : Int) (v : Int) = lenR roads j (u : Int) (v : Int) := by rw [HLS.out]; unfold joins; simp [g2, g3]
          as_aux_lemma =>
            have HV := Lib.hid hv
            clear hv
            go_quiet (fail)
            go_wp2
            go_roundw
            case rel => exact ⟨j + 1, by omega, by rw [HV.out], by go_num, HBX.out.trans (below_drewN _ _ _)⟩
            case measure => simp [intOf]; omega
      · by_cases g3 : x2 = (u : Int)
        · subst g3
          by_cases g4 : x1 = (v : Int)
          · subst g4
            have hv : lenR roads (j + 1) (u : Int) (v : Int) = x3 := by rw [HLS.out]; unfold joins; simp
            as_aux_lemma =>
              have HV := Lib.hid hv
              clear hv
              go_quiet (fail)
              go_wp2
              go_roundw
              case rel => exact ⟨j + 1, by omega, by rw [HV.out], by go_num, HBX.out.trans (below_drewN _ _ _)⟩
              case measure => simp [intOf]; omega
          · skip
            have hv : lenR roads (j + 1) (u : Int) (v : Int) = lenR roads j (u : Int) (v : Int) := by rw [HLS.out]; unfold joins; simp [g1, g4]
            as_aux_lemma =>
              have HV := Lib.hid hv
              clear hv
              go_quiet (fail)
              go_wp2
              go_roundw
              case rel => exact ⟨j + 1, by omega, by rw [HV.out], by go_num, HBX.out.trans (below_drewN _ _ _)⟩
              case measure => simp [intOf]; omega
        · skip
          have hv : lenR roads (j + 1) (u : Int) (v : Int) = lenR roads j (u : Int) (v : Int) := by rw [HLS.out]; unfold joins; simp [g1, g3]
          as_aux_lemma =>
            have HV := Lib.hid hv
            clear hv
            go_quiet (fail)
            go_wp2
            go_roundw
            case rel => exact ⟨j + 1, by omega, by rw [HV.out], by go_num, HBX.out.trans (below_drewN _ _ _)⟩
            case measure => simp [intOf]; omega
    · obtain rfl : j = m := by omega
      go_wp2
      exact HEX.out _ _ _ _ _ _ _ _ _ _ _ _ _ _ _ _ _ _ _ _ _ _ _ _ _ _ _ _ _ _ _ _ _ _ _ _ _ _ _ _ _ _ _ _ _ _ _ _ _ _ _ _ HBR.out
end Go.Proofs.YtdelkgfodeilkaaDoor
