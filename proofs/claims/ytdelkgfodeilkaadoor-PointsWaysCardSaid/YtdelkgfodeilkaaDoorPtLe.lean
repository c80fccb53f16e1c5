/-
  PointsWays: the walk, out of New's contract. Conditions: names of at most maxLen bytes.
-/
import Derived.Test.YtdelkgfodeilkaaDoorPtWl4
import Derived.Test.YtdelkgfodeilkaaDoorPtC
import Derived.Test.YtdelkgfodeilkaaDoorPtRd
import Derived.Test.YtdelkgfodeilkaaDoorPtWl2
import Derived.Deep.QuietTactic
import Derived.BigQuiet
namespace Go.Proofs.YtdelkgfodeilkaaDoor
open Go.RowKit Go.Lib
noncomputable def waysBody3 : Code := loopAt Tryd.f7 2
set_option linter.unusedSimpArgs false in
set_option linter.unusedVariables false in
set_option maxRecDepth 40000 in
set_option maxHeartbeats 8000000 in
theorem ways_loop3 (Q0 : Exit → Act → World → Prop) (w w5 : World) (B : Option Addr) (m k b0 : Nat) (roads : List Rd) (u v g b : Nat) (M : Pts) (q L cq t nl e3 : Nat) (A3 : Option Addr)
    (c0 c1 c3 c4 c6 c7 c10 c11 c12 c14 c15 c16 c19 c20 c21 c22 c23 c24 c25 c26 c27 c28 c29 c30 c31 c32 c33 c34 c35 c36 c37 c38 c39 c40 c41 c42 c43 c44 c45 c46 c47 c48 c49 c50 c51 c52 c53 c54 c55 c56 c57 c58 c59 c60 c61 c62 c63 c64 c65 c66 c67 c68 c69 c70 c71 c72 c73 c74 c75 c76 c77 c78 c79 c80 c81 c82 c83 c84 c85 c86 c87 c88 c89 c90 c91 c92 c93 c94 c95 c96 c97 c98 c99 c100 c101 c102 c103 c104 c105 c106 c107 c108 c109 c110 c111 c112 c113 c114 c115 c116 c117 c118 c119 c120 c121 c122 c123 c124 c125 c126 c127 c128 c129 c130 c131 c132 c133 c134 c135 c136 c137 c138 c139 c140 c141 c142 c143 c144 c145 c146 c147 c148 c149 c150 c151 c152 c153 c154 c155 c156 c157 c158 c159 c160 c161 c162 c163 c164 c165 c166 c167 c168 c169 c170 c171 c172 c173 c174 c175 c176 c177 c178 c179 c180 c181 c182 c183 c184 c185 c186 c187 c188 c189 c190 c191 c192 c193 c194 c195 c196 c197 c198 c199 c200 c201 c202 c203 c204 c205 c206 c207 c208 c209 c210 c211 c212 c213 c214 c215 c216 c217 c218 c219 c220 c221 c222 c223 c224 c225 c226 c227 c228 c229 c230 c231 c232 c233 c234 c235 c236 c237 c238 c239 c240 c241 c242 c243 c244 c245 c246 c247 c248 c249 c250 c251 c252 c253 c254 c255 c256 c257 c258 c259 c260 c261 c262 c263 c264 c265 c266 c267 c268 c269 c270 c271 c272 c273 c274 c275 c276 c277 c278 c279 c280 : Value)
    (hR : Reads w w.heap.size 3 B m (roads.flatMap roadV)) (hrl : roads.length = m) (hm512 : m ≤ 512) (hW : Below w.heap.size w w5) (hok : ∀ x ∈ roads, x.1 ≠ x.2.1)
    (hc11 : ∀ W, Below w5.heap.size w5 W → W.cell? ⟨b0, 1, none⟩ = some (.slice B m k))
    (hcu : ∀ W, Below w5.heap.size w5 W → W.cell? ⟨q, t, none⟩ = some (.int .i64 (u : Nat))) (hcv : ∀ W, Below w5.heap.size w5 W → W.cell? ⟨q, t + 1, none⟩ = some (.int .i64 (v : Nat)))
    (htI : (t : Int) + 1 < (L : Int)) (htI3 : (t : Int) < (L : Int)) (ht0 : (0 : Int) ≤ (t : Int) + 1) (htn : ((t : Int) + 1).toNat = t + 1) (htb : L ≤ 128)
    (hO : ∀ W, Below w5.heap.size w5 W → MapO W (some ⟨g, 0, none⟩) (some M)) (hGO : GoodO (some M)) (hG : GoodM M) (hall : ∀ vk lk, edgeOf M u vk lk → lenR roads m u vk = lk)
    (hbest : ∀ e ∈ M.near.getD u [], e.1 < v → distM M e.1 b + e.2 ≠ distM M u b) (hun : u < M.n) (hb : b < M.n) (hu0 : 0 ≤ distM M u b)
    (hr3 : ReadI w5 w5.heap.size A3 nl (nearL (some M) (u : Int))) (hnl : (nearL (some M) (u : Int)).length = nl) (hm3 : nl ≤ maxLen)
    (hexit : ∀ (d4 d18 d19 d20 d21 d22 d23 d24 d25 d173 d174 d175 d176 d177 d178 d179 d180 d181 d182 d183 d184 d185 d186 d187 d188 d189 d190 d191 d192 d193 d194 d195 d196 d197 d198 d199 d200 d201 d202 d203 d204 d205 d206 d207 d208 d209 d210 d211 d212 d213 d214 d215 d216 d217 d218 d219 d220 d221 d222 d223 d224 d225 d226 d227 d228 d229 d230 d231 d232 d233 d234 d235 d236 d237 d238 d239 d240 d241 d242 d243 d244 d245 d246 d247 d248 d249 d250 d251 d252 d253 d254 d255 d256 d257 d258 d259 d260 d261 d262 d263 d264 d265 d266 d267 d268 d269 d270 d271 : Value) (wr : World), Below w5.heap.size w5 wr → Q0 (.exit 4) ⟨List.toArray (c0 :: c1 :: .pointer (some ⟨b0, 0, none⟩) :: c3 :: d4 :: .pointer (some ⟨g, 0, none⟩) :: c6 :: c7 :: .int .i64 (b : Nat) :: .slice (some ⟨q, 0, none⟩) L cq :: c10 :: c11 :: c12 :: .int .i64 ((t : Int) + 1) :: c14 :: c15 :: c16 :: .slice A3 nl e3 :: d18 :: d19 :: d20 :: d21 :: d22 :: d23 :: d24 :: d25 :: c26 :: c27 :: c28 :: c29 :: c30 :: c31 :: c32 :: c33 :: c34 :: c35 :: c36 :: c37 :: c38 :: c39 :: c40 :: c41 :: c42 :: c43 :: c44 :: c45 :: c46 :: c47 :: c48 :: c49 :: c50 :: c51 :: c52 :: c53 :: c54 :: c55 :: c56 :: c57 :: c58 :: c59 :: c60 :: c61 :: c62 :: c63 :: c64 :: c65 :: c66 :: c67 :: c68 :: c69 :: c70 :: c71 :: c72 :: c73 :: c74 :: c75 :: c76 :: c77 :: c78 :: c79 :: c80 :: c81 :: c82 :: c83 :: c84 :: c85 :: c86 :: c87 :: c88 :: c89 :: c90 :: c91 :: c92 :: c93 :: c94 :: c95 :: c96 :: c97 :: c98 :: c99 :: c100 :: c101 :: c102 :: c103 :: c104 :: c105 :: c106 :: c107 :: c108 :: c109 :: c110 :: c111 :: c112 :: c113 :: c114 :: c115 :: c116 :: c117 :: c118 :: c119 :: c120 :: c121 :: c122 :: c123 :: c124 :: c125 :: c126 :: c127 :: c128 :: c129 :: c130 :: c131 :: c132 :: c133 :: c134 :: c135 :: c136 :: c137 :: c138 :: c139 :: c140 :: c141 :: c142 :: c143 :: c144 :: c145 :: c146 :: c147 :: c148 :: c149 :: c150 :: c151 :: c152 :: c153 :: c154 :: c155 :: c156 :: c157 :: c158 :: c159 :: c160 :: c161 :: c162 :: c163 :: c164 :: c165 :: c166 :: c167 :: c168 :: c169 :: c170 :: c171 :: c172 :: d173 :: d174 :: d175 :: d176 :: d177 :: d178 :: d179 :: d180 :: d181 :: d182 :: d183 :: d184 :: d185 :: d186 :: d187 :: d188 :: d189 :: d190 :: d191 :: d192 :: d193 :: d194 :: d195 :: d196 :: d197 :: d198 :: d199 :: d200 :: d201 :: d202 :: d203 :: d204 :: d205 :: d206 :: d207 :: d208 :: d209 :: d210 :: d211 :: d212 :: d213 :: d214 :: d215 :: d216 :: d217 :: d218 :: d219 :: d220 :: d221 :: d222 :: d223 :: d224 :: d225 :: d226 :: d227 :: d228 :: d229 :: d230 :: d231 :: d232 :: d233 :: d234 :: d235 :: d236 :: d237 :: d238 :: d239 :: d240 :: d241 :: d242 :: d243 :: d244 :: d245 :: d246 :: d247 :: d248 :: d249 :: d250 :: d251 :: d252 :: d253 :: d254 :: d255 :: d256 :: d257 :: d258 :: d259 :: d260 :: d261 :: d262 :: d263 :: d264 :: d265 :: d266 :: d267 :: d268 :: d269 :: d270 :: d271 :: c272 :: c273 :: c274 :: c275 :: c276 :: c277 :: c278 :: c279 :: c280 :: []), []⟩ wr) :
    Code.wp Tryd.prog (.loop waysBody3) Q0 ⟨List.toArray (c0 :: c1 :: .pointer (some ⟨b0, 0, none⟩) :: c3 :: c4 :: .pointer (some ⟨g, 0, none⟩) :: c6 :: c7 :: .int .i64 (b : Nat) :: .slice (some ⟨q, 0, none⟩) L cq :: c10 :: c11 :: c12 :: .int .i64 ((t : Int) + 1) :: c14 :: c15 :: c16 :: .slice A3 nl e3 :: .int .i64 0 :: c19 :: c20 :: c21 :: c22 :: c23 :: c24 :: c25 :: c26 :: c27 :: c28 :: c29 :: c30 :: c31 :: c32 :: c33 :: c34 :: c35 :: c36 :: c37 :: c38 :: c39 :: c40 :: c41 :: c42 :: c43 :: c44 :: c45 :: c46 :: c47 :: c48 :: c49 :: c50 :: c51 :: c52 :: c53 :: c54 :: c55 :: c56 :: c57 :: c58 :: c59 :: c60 :: c61 :: c62 :: c63 :: c64 :: c65 :: c66 :: c67 :: c68 :: c69 :: c70 :: c71 :: c72 :: c73 :: c74 :: c75 :: c76 :: c77 :: c78 :: c79 :: c80 :: c81 :: c82 :: c83 :: c84 :: c85 :: c86 :: c87 :: c88 :: c89 :: c90 :: c91 :: c92 :: c93 :: c94 :: c95 :: c96 :: c97 :: c98 :: c99 :: c100 :: c101 :: c102 :: c103 :: c104 :: c105 :: c106 :: c107 :: c108 :: c109 :: c110 :: c111 :: c112 :: c113 :: c114 :: c115 :: c116 :: c117 :: c118 :: c119 :: c120 :: c121 :: c122 :: c123 :: c124 :: c125 :: c126 :: c127 :: c128 :: c129 :: c130 :: c131 :: c132 :: c133 :: c134 :: c135 :: c136 :: c137 :: c138 :: c139 :: c140 :: c141 :: c142 :: c143 :: c144 :: c145 :: c146 :: c147 :: c148 :: c149 :: c150 :: c151 :: c152 :: c153 :: c154 :: c155 :: c156 :: c157 :: c158 :: c159 :: c160 :: c161 :: c162 :: c163 :: c164 :: c165 :: c166 :: c167 :: c168 :: c169 :: c170 :: c171 :: c172 :: c173 :: c174 :: c175 :: c176 :: c177 :: c178 :: c179 :: c180 :: c181 :: c182 :: c183 :: c184 :: c185 :: c186 :: c187 :: c188 :: c189 :: c190 :: c191 :: c192 :: c193 :: c194 :: c195 :: c196 :: c197 :: c198 :: c199 :: c200 :: c201 :: c202 :: c203 :: c204 :: c205 :: c206 :: c207 :: c208 :: c209 :: c210 :: c211 :: c212 :: c213 :: c214 :: c215 :: c216 :: c217 :: c218 :: c219 :: c220 :: c221 :: c222 :: c223 :: c224 :: c225 :: c226 :: c227 :: c228 :: c229 :: c230 :: c231 :: c232 :: c233 :: c234 :: c235 :: c236 :: c237 :: c238 :: c239 :: c240 :: c241 :: c242 :: c243 :: c244 :: c245 :: c246 :: c247 :: c248 :: c249 :: c250 :: c251 :: c252 :: c253 :: c254 :: c255 :: c256 :: c257 :: c258 :: c259 :: c260 :: c261 :: c262 :: c263 :: c264 :: c265 :: c266 :: c267 :: c268 :: c269 :: c270 :: c271 :: c272 :: c273 :: c274 :: c275 :: c276 :: c277 :: c278 :: c279 :: c280 :: []), []⟩ w5 := by
  unfold waysBody3
  conv => arg 2; arg 1; whnf
  have hub := hG.bound (v := b) hun
  unfold maxLen at hm3
  have HR0 := Lib.hid hR; have HRL := Lib.hid hrl; have HB := Lib.hid hW; have HOK := Lib.hid hok; have HC11 := Lib.hid hc11; have HCU := Lib.hid hcu; have HCV := Lib.hid hcv; have HEX := Lib.hid hexit
  have HO := Lib.hid hO; have HGO := Lib.hid hGO; have HG := Lib.hid hG; have HALL := Lib.hid hall; have HBEST := Lib.hid hbest; have HR3 := Lib.hid hr3; have HNL3 := Lib.hid hnl
  clear hR hrl hW hok hc11 hcu hcv hexit hO hGO hG hall hbest hr3 hnl
  go_loopw [18] (fun i wr => ∃ kk : Nat, kk ≤ nl ∧ i = .int .i64 kk ∧ Below w5.heap.size w5 wr) (fun i _ => nl - (intOf i).toNat)
  case atStart => exact ⟨0, by omega, rfl, Below.refl _ _⟩
  case round =>
    obtain ⟨kk, hkk, rfl, hbk⟩ := hrel
    have HBK := Lib.hid hbk
    clear hbk
    by_cases hkl : kk < nl
    · skip
      have hkI : (kk : Int) < (nl : Int) := by omega
      have hkx : kk < (nearL (some M) (u : Int)).length := by rw [HNL3.out]; exact hkl
      obtain ⟨a3, rfl, ha3, hck⟩ := ReadI.at_ (k := kk) HR3.out hkx
      obtain ⟨vk, lk, hvk, hek, hmk⟩ := edge_near hun hkx
      rw [hvk] at hck
      have HCK := Lib.hid (fun (W : World) (hW : Below w5.heap.size w5 W) => (hW.cell (p := a3.add kk) (by rw [block_of_add]; exact ha3)).trans hck)
      clear hck ha3 hvk hkx
      have ck := HCK.out wr HBK.out
      have cv := HCV.out wr HBK.out
      by_cases hlv : vk < v
      · skip
        have hlvI : (vk : Int) < (v : Int) := by omega
        have hvkn := (HG.out.lt hek).2
        obtain ⟨hl2, hl3⟩ := HG.out.lens _ _ _ hek
        have hst2 := HALL.out vk lk hek
        have hbb := HBEST.out (vk, lk) hmk hlv
        have hvb := HG.out.bound (v := b) hvkn
        obtain ⟨du, hdu⟩ : ∃ du, distM M u b = du := ⟨_, rfl⟩
        rw [hdu] at hbb hub hu0
        obtain ⟨rv, hrv⟩ : ∃ rv, max (distM M vk b) 0 = rv := ⟨_, rfl⟩
        obtain ⟨isv, hisv⟩ : ∃ isv, decide (0 ≤ distM M vk b) = isv := ⟨_, rfl⟩
        have hkey : isv = true → ¬ rv + lk = du := fun h => by
          rw [← hisv, decide_eq_true_iff] at h
          simp only at hbb
          omega
        have hrv0 : 0 ≤ rv ∧ rv ≤ 137438953472 := by omega
        have q3 := fun W (hW : Below w5.heap.size w5 W) => distP_any _ _ vk b W (HO.out W hW) HGO.out
        rw [distO_in hvkn hb, hrv, hisv] at q3
        have q4 := fun W (hW : Below w5.heap.size w5 W) => distP_any _ _ u b W (HO.out W hW) HGO.out
        rw [distO_in hun hb, hdu, Int.max_eq_left hu0, decide_eq_true hu0] at q4
        have HST2 := Lib.hid hst2; have HKEY := Lib.hid hkey; have HQ3 := Lib.hid q3; have HQ4 := Lib.hid q4
        clear hst2 hkey q3 q4 hbb hmk hek hisv hrv hlv hvb hdu
        go_wp2_with fail
        go_quiet (fail)
        have hq0 : Below w5.heap.size w5 (wr.drewN nq) := HBK.out.trans (below_drewN _ _ _)
        generalize wr.drewN nq = w6 at hq0 ⊢
        have ck := HCK.out w6 hq0
        have q3 := HQ3.out w6 hq0
        clear cv
        go_wp2_with fail
        refine q3.mono ?_
        rintro e w7 ⟨rfl, hb7⟩
        have hb57 := hq0.trans (hb7.mono hq0.size)
        have cu := HCU.out w7 hb57
        have q4 := HQ4.out w7 hb57
        clear hb7 q3 hq0 ck
        go_wp2_with fail
        refine q4.mono ?_
        rintro e w8 ⟨rfl, hb8⟩
        have HB58 := Lib.hid (hb57.trans (hb8.mono hb57.size))
        clear hb8 hb57 q4 cu
        go_wp2_with fail
        refine ways_loop4 _ w w8 B m k b0 roads u vk q L cq t nl e3 kk a3 _ _ _ _ _ _ _ _ _ _ _ _ _ _ _ _ _ _ _ _ _ _ _ _ _ _ _ _ _ _ _ _ _ _ _ _ _ _ _ _ _ _ _ _ _ _ _ _ _ _ _ _ _ _ _ _ _ _ _ _ _ _ _ _ _ _ _ _ _ _ _ _ _ _ _ _ _ _ _ _ _ _ _ _ _ _ _ _ _ _ _ _ _ _ _ _ _ _ _ _ _ _ _ _ _ _ _ _ _ _ _ _ _ _ _ _ _ _ _ _ _ _ _ _ _ _ _ _ _ _ _ _ _ _ _ _ _ _ _ _ _ _ _ _ _ _ _ _ _ _ _ _ _ _ _ _ _ _ _ _ _ _ _ _ _ _ _ _ _ _ _ _ _ _ _ _ _ _ _ _ _ _ _ _ _ _ _ _ _ _ _ _ _ _ _ _ _ _ _ _ _ _ _ _ _ _ _ _ _ _ _ _ _ _ _ _ _ _ _ _ _ _ _ _ _ _ _ _ _ _ _ _ _ _ _ _ _ _ _ _ _ _ _ _ _ _ _ _ _ _ _ _ _ _ _ _ _ _ _ _ _ _ _ _ _ _ _ _ _ _ _ _ _ _ HR0.out HRL.out hm512 (HB.out.trans (HB58.out.mono HB.out.size)) HOK.out (fun W hW => HC11.out W (HB58.out.trans (hW.mono HB58.out.size))) (fun W hW => HCU.out W (HB58.out.trans (hW.mono HB58.out.size))) (fun W hW => HCK.out W (HB58.out.trans (hW.mono HB58.out.size))) htI htI3 ht0 htn (by omega) hkI ?_
        intro e25 e211 e212 e213 e214 e215 e216 e217 e218 e219 e220 e221 e222 e223 e224 e225 e226 e227 e228 e229 e230 e231 e232 e233 e234 e235 e236 e237 e238 e239 e240 e241 e242 e243 e244 e245 e246 e247 e248 e249 e250 e251 e252 e253 e254 e255 e256 e257 e258 e259 e260 w9 hb9
        have HB59 := Lib.hid (HB58.out.trans (hb9.mono HB58.out.size))
        rw [HST2.out]
        clear hb9
        cases isv
        · as_aux_lemma =>
            go_wp2
            go_roundw
            case rel => exact ⟨kk + 1, by omega, by go_num, HB59.out⟩
            case measure => simp [intOf]; omega
        · as_aux_lemma =>
            have hne := HKEY.out rfl
            go_wp2
            go_roundw
            case rel => exact ⟨kk + 1, by omega, by go_num, HB59.out⟩
            case measure => simp [intOf]; omega
      · as_aux_lemma =>
          have hlvI : ¬ (vk : Int) < (v : Int) := by omega
          clear hlv
          go_wp2_with fail
          go_quiet (fail)
          go_wp2
          exact HEX.out _ _ _ _ _ _ _ _ _ _ _ _ _ _ _ _ _ _ _ _ _ _ _ _ _ _ _ _ _ _ _ _ _ _ _ _ _ _ _ _ _ _ _ _ _ _ _ _ _ _ _ _ _ _ _ _ _ _ _ _ _ _ _ _ _ _ _ _ _ _ _ _ _ _ _ _ _ _ _ _ _ _ _ _ _ _ _ _ _ _ _ _ _ _ _ _ _ _ _ _ _ _ _ _ _ _ _ _ _ (HBK.out.trans (below_drewN _ _ _))
    · as_aux_lemma =>
        obtain rfl : kk = nl := by omega
        go_wp2_with fail
        go_quiet (fail)
        go_wp2
        exact HEX.out _ _ _ _ _ _ _ _ _ _ _ _ _ _ _ _ _ _ _ _ _ _ _ _ _ _ _ _ _ _ _ _ _ _ _ _ _ _ _ _ _ _ _ _ _ _ _ _ _ _ _ _ _ _ _ _ _ _ _ _ _ _ _ _ _ _ _ _ _ _ _ _ _ _ _ _ _ _ _ _ _ _ _ _ _ _ _ _ _ _ _ _ _ _ _ _ _ _ _ _ _ _ _ _ _ _ _ _ _ (HBK.out.trans (below_drewN _ _ _))
end Go.Proofs.YtdelkgfodeilkaaDoor
namespace Go.Proofs.YtdelkgfodeilkaaDoor
open Go.RowKit Go.Lib


set_option linter.unusedSimpArgs false in
set_option maxRecDepth 40000 in
set_option maxHeartbeats 8000000 in
theorem ways_law (hnew : NewAny) (hwk : WorksAny) (A B : Option Addr) (n c m k : Nat) (names : List ByteArray) (roads : List Rd) (x y : UInt8) (w : World) (hN : ReadS w w.heap.size A n names) (hR : Reads w w.heap.size 3 B m (roads.flatMap roadV)) (hs : ∀ s ∈ names, s.size ≤ maxLen) :
    Calls Tryd.prog 7 #[.agg #[.slice A n c, .slice B m k], .agg #[.int .u8 x.toNat, .int .u8 y.toNat]] w fun e w' => e = .returned (.bool true) ∧ Below w.heap.size w w' := by
  have hnl := hN.len
  have hb0 : Below w.heap.size w ((w.alloc (.cells #[.slice A n c, .slice B m k] 25)).alloc (.cells #[.int .u8 x.toNat, .int .u8 y.toNat] 44)) := ((Below.refl _ w).alloc (by first | exact Nat.le_refl _ | (simp only [World.size_alloc]; omega)) _).alloc (by first | exact Nat.le_refl _ | (simp only [World.size_alloc]; omega)) _
  have hc1 := (Blk.new w 25 #[.slice A n c, .slice B m k]).alloc (.cells #[.int .u8 x.toNat, .int .u8 y.toNat] 44)
  have hc2 := Blk.new (w.alloc (.cells #[.slice A n c, .slice B m k] 25)) 44 #[.int .u8 x.toNat, .int .u8 y.toNat]
  simp only [World.size_alloc] at hc1 hc2
  have hn := hnew A B n c m k names roads _ ((Reads.below hN hb0).more hb0.size) ((hR.below hb0).more hb0.size) hs
  have HR0 := Lib.hid hR; have HN0 := Lib.hid hN; have HS0 := Lib.hid hs
  have HB0 := Lib.hid hb0; have HWK := Lib.hid hwk; have HNL := Lib.hid hnl; have HNEW := Lib.hid hnew
  have HC1 := Lib.hid hc1; have HC2 := Lib.hid hc2
  clear hb0 hc1 hc2 hN hR hs hwk hnl hnew
  go_enter Tryd.func7, Tryd.ntmps7
  go_wp2_with fail
  refine hn.mono ?_
  rintro e w1 ⟨hbad, hgood, hb1⟩
  have hB1 := HB0.out.trans (hb1.mono HB0.out.size)
  have k1 := HC1.out.below hb1 HC1.out.lt
  have k2 := HC2.out.below hb1 HC2.out.lt
  have hf := few_any A B n c m k w1
  have c10 := k1.cell 0; have c11 := k1.cell 1
  simp only [List.getElem?_toArray, List.getElem?_cons_zero, List.getElem?_cons_succ] at c10 c11
  have HK1 := Lib.hid k1; have HK2 := Lib.hid k2; have HB1 := Lib.hid hB1
  clear hn hb1 k1 k2 hB1 HB0 HC1 HC2
  generalize fewB n m = fw at hf
  by_cases hE : newE names roads = 0
  · obtain ⟨g, rfl, hM⟩ := hgood hE
    have hG := good_new hE
    have HE := Lib.hid hE
    obtain ⟨M, hMM⟩ : ∃ M, newM names roads = M := ⟨_, rfl⟩
    rw [hMM] at hM hG
    have hO : MapO w1 (some ⟨g, 0, none⟩) (some M) := ⟨g, rfl, hM⟩
    have hl := lenP_any _ _ w1 hO
    rw [show lenO (some M) = M.n from rfl] at hl
    have HO := Lib.hid hO; have HG := Lib.hid hG; have HMM := Lib.hid hMM
    have HGO := Lib.hid (show GoodO (some M) from fun M' e => by injection e with e; exact e ▸ hG)
    have hfew : M.n ≤ 128 := hG.few
    clear hbad hgood hM hO hG hE hMM
    cases fw
    · go_wp2_with fail
      refine hf.mono ?_
      rintro e w' ⟨rfl, rfl⟩
      go_wp2_with fail
      refine (HWK.out _).mono ?_
      rintro e w2 ⟨rfl, hb2⟩
      go_wp2
      go_ret
      exact ⟨rfl, HB1.out.trans (hb2.mono HB1.out.size)⟩
    · go_wp2_with fail
      refine hf.mono ?_
      rintro e w' ⟨rfl, rfl⟩
      go_wp2_with fail
      refine hl.mono ?_
      rintro e w' ⟨rfl, rfl⟩
      by_cases h0 : M.n = 0
      · have h0I : (M.n : Int) = 0 := by omega
        go_wp2_with fail
        refine (HWK.out _).mono ?_
        rintro e w2 ⟨rfl, hb2⟩
        go_wp2
        go_ret
        exact ⟨rfl, HB1.out.trans (hb2.mono HB1.out.size)⟩
      · have h0I : ¬ (M.n : Int) = 0 := by omega
        have c20 := HK2.out.cell 0
        simp only [List.getElem?_toArray, List.getElem?_cons_zero] at c20
        obtain ⟨a, ha, ea⟩ := mod_pick x h0
        obtain ⟨b, hb, eb⟩ := mod_pick y h0
        have hl2 : ∀ W, Below w1.heap.size w1 W → Calls Tryd.prog 15 #[.pointer (some ⟨g, 0, none⟩)] W fun e w' => e = .returned (.int .i64 (M.n : Nat)) ∧ w' = W := fun W hW => (lenP_any _ _ W (HO.out.below hW)).mono fun _ _ h => ⟨h.1, h.2.symm⟩
        have HL2 := Lib.hid hl2
        have hrl : roads.length = m := by
          have := HR0.out.1
          rw [flatMap_len roadV 3 (fun _ => rfl)] at this; omega
        have hm512 : m ≤ 512 := by have := (newE_zero HE.out).2.1; omega
        have HRL := Lib.hid hrl
        have hq1 := fun W (hW : Below w1.heap.size w1 W) => pathP_any _ _ a b W (HO.out.below hW) HGO.out
        have HQ1 := Lib.hid hq1
        clear hl2 hrl hl hq1
        go_wp2_with fail
        go_quiet ((go_at_call 15; refine Calls.quiet_of_same (HL2.out _ (below_drewN _ _ _))))
        have hq0 : Below w1.heap.size w1 (w1.drewN nq) := below_drewN _ _ _
        generalize w1.drewN nq = u1 at hq0 ⊢
        have k2u := HK2.out.below hq0 HK2.out.lt
        have c21 := k2u.cell 1
        simp only [List.getElem?_toArray, List.getElem?_cons_zero, List.getElem?_cons_succ] at c21
        clear k2u
        go_wp2_with fail
        go_quiet ((go_at_call 15; refine Calls.quiet_of_same (HL2.out _ (hq0.trans (below_drewN _ _ _)))))
        have hq2 : Below w1.heap.size w1 (u1.drewN nq) := hq0.trans (below_drewN _ _ _)
        generalize u1.drewN nq = u2 at hq2 ⊢
        have hq1 := HQ1.out _ hq2
        clear hq0 c20 c21 HL2 ea eb
        go_wp2_with fail
        refine hq1.mono ?_
        rintro e w2 ⟨v2, rfl, ho2, hb2⟩
        have HB2 := Lib.hid (hq2.trans (hb2.mono hq2.size))
        have q2 := distP_any _ _ a b w2 (HO.out.below HB2.out) HGO.out
        rw [distO_in ha hb] at q2
        clear hb2 hq1 hq2 HQ1
        by_cases hok : 0 ≤ distM M a b
        · skip
          obtain ⟨P, eP, hP⟩ := way_ok HG.out ha hb hok
          have hpt := hP.pts
          rw [eP, List.length_map] at ho2
          rw [decide_eq_true hok] at q2
          have hmx : max (distM M a b) 0 = distM M a b := by omega
          rw [hmx] at q2
          obtain ⟨q, c2, rfl, _, hqlt⟩ := ho2.form hpt.pos
          have hcell : ∀ (W : World), Below w2.heap.size w2 W → ∀ t, t < P.length → W.cell? ⟨q, t, none⟩ = some (.int .i64 ((P.getD t 0 : Nat) : Int)) := fun W hW t ht => by rw [getD_at ht]; exact way_cell ho2 hW ht
          clear hP eP ho2 hmx
          generalize P.length = len at *
          generalize hptf : (fun t => P.getD t 0) = pt at hpt
          have hcell2 : ∀ (W : World), Below w2.heap.size w2 W → ∀ t, t < len → W.cell? ⟨q, t, none⟩ = some (.int .i64 ((pt t : Nat) : Int)) := fun W hW t ht => by rw [hcell W hW t ht, ← hptf]
          clear hcell hptf
          have hdb := HG.out.bound (v := b) ha
          have hlen := hpt.few; have hpos := hpt.pos
          obtain ⟨t0, rfl⟩ : ∃ t0, len = t0 + 1 := ⟨len - 1, by omega⟩
          have HPT := Lib.hid hpt; have HCELL := Lib.hid hcell2
          obtain ⟨d, hd⟩ : ∃ d, distM M a b = d := ⟨_, rfl⟩
          rw [hd] at q2 hok hdb
          have HD := Lib.hid hd
          clear hpt hcell2 hd
          go_wp2_with fail
          refine q2.mono ?_
          rintro e w3 ⟨rfl, hb3⟩
          have HB13 := Lib.hid (HB1.out.trans ((HB2.out.trans (hb3.mono HB2.out.size)).mono HB1.out.size))
          have hb23 : Below w1.heap.size w1 w3 := HB2.out.trans (hb3.mono HB2.out.size)
          have hl3 := lenP_any _ _ w3 (HO.out.below hb23)
          rw [show lenO (some M) = M.n from rfl] at hl3
          have HC3 := Lib.hid (fun (W : World) (hW : Below w3.heap.size w3 W) => HCELL.out W (hb3.trans (hW.mono hb3.size)))
          have HC11 := Lib.hid (fun (W : World) (hW : Below w3.heap.size w3 W) => (hb23.trans (hW.mono hb23.size)).cell (p := ⟨w.heap.size, 1, none⟩) HK1.out.lt |>.trans c11)
          have HB23 := Lib.hid hb23
          have p0 := HC3.out w3 (Below.refl _ _) 0 (by omega)
          have pl := HC3.out w3 (Below.refl _ _) t0 (by omega)
          rw [HPT.out.first] at p0
          have hlast := HPT.out.last
          rw [Nat.add_sub_cancel] at hlast
          rw [hlast] at pl
          have hl0 : ((t0 : Int) + 1 == 0) = false := by simp; omega
          have hlI : ¬ (M.n : Int) < (t0 : Int) + 1 := by omega
          have HLAST := Lib.hid hlast
          clear hb3 hb23 q2 hlast HCELL
          go_wp2_with fail
          refine hl3.mono ?_
          rintro e w' ⟨rfl, rfl⟩
          go_wp2_with fail
          clear p0 pl hl0 hl3
          have HNEAR := Lib.hid (fun W hW x => near_gives HO.out HG.out W hW x)
          go_loopw [12, 13] (fun s i wr => ∃ t : Nat, t < t0 + 1 ∧ s = .int .i64 (d - distM M (pt t) b) ∧ i = .int .i64 ((t : Int) + 1) ∧ Below w3.heap.size w3 wr) (fun _ i _ => t0 + 2 - (intOf i).toNat)
          case atStart => exact ⟨0, by omega, by rw [HPT.out.first, HD.out, Int.sub_self], rfl, Below.refl _ _⟩
          case round =>
            obtain ⟨t, ht, rfl, rfl, hbt⟩ := hrel
            have HBT := Lib.hid hbt
            have c11r := HC11.out wr hbt
            clear hbt
            have htI3 : (t : Int) < (t0 : Int) + 1 := by omega
            by_cases hlt : t < t0
            · skip
              have htI : (t : Int) + 1 < (t0 : Int) + 1 := by omega
              have ht0 : (0 : Int) ≤ (t : Int) + 1 := by omega
              have htn : ((t : Int) + 1).toNat = t + 1 := by omega
              obtain ⟨l, he, hl1, hds, hbest⟩ := HPT.out.step t (by omega)
              have hcu := fun W hW => HC3.out W hW t (by omega)
              have hcv := fun W hW => HC3.out W hW (t + 1) (by omega)
              have hu := HPT.out.all t (by omega)
              have hv := HPT.out.all (t + 1) (by omega)
              generalize hpu : pt t = u at *
              generalize hpv : pt (t + 1) = v at *
              have hub := HG.out.bound (v := b) hu.1
              have hvb := HG.out.bound (v := b) hv.1
              have hlb := (HG.out.lens _ _ _ he).2
              obtain ⟨du, hdu⟩ : ∃ du, distM M u b = du := ⟨_, rfl⟩
              obtain ⟨dv, hdv⟩ : ∃ dv, distM M v b = dv := ⟨_, rfl⟩
              rw [hdu] at hds hbest hub ⊢
              rw [hdv] at hds hvb
              have hu0 : 0 ≤ du := hdu ▸ hu.2
              have hv0 : 0 ≤ dv := hdv ▸ hv.2
              have hun := hu.1
              have hst : lenR roads m u v = l := by rw [← HRL.out]; exact lenR_all HE.out HMM.out he
              have HST := Lib.hid hst; have HDU := Lib.hid hdu; have HDV := Lib.hid hdv; have HBEST := Lib.hid hbest; have HCU := Lib.hid hcu; have HCV := Lib.hid hcv; have HPV := Lib.hid hpv
              clear hst hdu hdv hbest hcu hcv hu hv he hpu hpv
              go_wp2_with fail
              have hokr := fun x hx => ((newE_zero HE.out).2.2.2.1 x hx).ne
              have HOKR := Lib.hid hokr
              clear hokr
              refine ways_loop2 _ w wr B m k w.heap.size roads u v q (t0 + 1) c2 t _ _ _ _ _ _ _ _ _ _ _ _ _ _ _ _ _ _ _ _ _ _ _ _ _ _ _ _ _ _ _ _ _ _ _ _ _ _ _ _ _ _ _ _ _ _ _ _ _ _ _ _ _ _ _ _ _ _ _ _ _ _ _ _ _ _ _ _ _ _ _ _ _ _ _ _ _ _ _ _ _ _ _ _ _ _ _ _ _ _ _ _ _ _ _ _ _ _ _ _ _ _ _ _ _ _ _ _ _ _ _ _ _ _ _ _ _ _ _ _ _ _ _ _ _ _ _ _ _ _ _ _ _ _ _ _ _ _ _ _ _ _ _ _ _ _ _ _ _ _ _ _ _ _ _ _ _ _ _ _ _ _ _ _ _ _ _ _ _ _ _ _ _ _ _ _ _ _ _ _ _ _ _ _ _ _ _ _ _ _ _ _ _ _ _ _ _ _ _ _ _ _ _ _ _ _ _ _ _ _ _ _ _ _ _ _ _ _ _ _ _ _ _ _ _ _ _ _ _ _ _ _ _ _ _ _ _ _ _ _ _ _ _ _ _ _ _ _ _ _ _ _ _ _ _ _ _ _ _ _ _ _ _ _ _ _ _ _ _ _ _ _ _ _ _ _ HR0.out HRL.out hm512 (HB13.out.trans (HBT.out.mono HB13.out.size)) HOKR.out (fun W hW => HC11.out W (HBT.out.trans (hW.mono HBT.out.size))) (fun W hW => HCU.out W (HBT.out.trans (hW.mono HBT.out.size))) (fun W hW => HCV.out W (HBT.out.trans (hW.mono HBT.out.size))) htI htI3 ht0 htn (by omega) ?_
              intro d16 d114 d115 d116 d117 d118 d119 d120 d121 d122 d123 d124 d125 d126 d127 d128 d129 d130 d131 d132 d133 d134 d135 d136 d137 d138 d139 d140 d141 d142 d143 d144 d145 d146 d147 d148 d149 d150 d151 d152 d153 d154 d155 d156 d157 d158 d159 d160 d161 d162 d163 w4 hb4
              have HB34 := Lib.hid (HBT.out.trans (hb4.mono HBT.out.size))
              have hst := HST.out
              rw [hst]
              have hl0 : (l == 0) = false := by simp; omega
              have cu := HCU.out w4 HB34.out
              have hnear := HNEAR.out w4 (HB23.out.trans (HB34.out.mono HB23.out.size)) u
              clear hst hb4
              go_wp2_with fail
              refine hnear.mono ?_
              rintro e w5 ⟨A3, c3, rfl, hr3, hm3, hb5⟩
              clear cu hl0 hnear
              have HB35 := Lib.hid (HB34.out.trans (hb5.mono HB34.out.size))
              obtain ⟨nl, hnl⟩ : ∃ nl, (nearL (some M) (u : Int)).length = nl := ⟨_, rfl⟩
              rw [hnl] at hr3 hm3 ⊢
              have HNL3 := Lib.hid hnl; have HR3 := Lib.hid hr3; have HM3 := Lib.hid hm3
              clear hnl hr3 hb5 hm3
              have hall3 : ∀ vk lk, edgeOf M u vk lk → lenR roads m u vk = lk := fun vk lk hek => by rw [← HRL.out]; exact lenR_all HE.out HMM.out hek
              have hbest3 : ∀ e ∈ M.near.getD u [], e.1 < v → distM M e.1 b + e.2 ≠ distM M u b := by rw [HDU.out]; exact HBEST.out
              have HALL3 := Lib.hid hall3; have HBEST3 := Lib.hid hbest3
              clear hall3 hbest3
              go_wp2_with fail
              refine ways_loop3 _ w w5 B m k w.heap.size roads u v g b M q (t0 + 1) c2 t nl c3 A3 _ _ _ _ _ _ _ _ _ _ _ _ _ _ _ _ _ _ _ _ _ _ _ _ _ _ _ _ _ _ _ _ _ _ _ _ _ _ _ _ _ _ _ _ _ _ _ _ _ _ _ _ _ _ _ _ _ _ _ _ _ _ _ _ _ _ _ _ _ _ _ _ _ _ _ _ _ _ _ _ _ _ _ _ _ _ _ _ _ _ _ _ _ _ _ _ _ _ _ _ _ _ _ _ _ _ _ _ _ _ _ _ _ _ _ _ _ _ _ _ _ _ _ _ _ _ _ _ _ _ _ _ _ _ _ _ _ _ _ _ _ _ _ _ _ _ _ _ _ _ _ _ _ _ _ _ _ _ _ _ _ _ _ _ _ _ _ _ _ _ _ _ _ _ _ _ _ _ _ _ _ _ _ _ _ _ _ _ _ _ _ _ _ _ _ _ _ _ _ _ _ _ _ _ _ _ _ _ _ _ _ _ _ _ _ _ _ _ _ _ _ _ _ _ _ _ _ _ _ _ _ _ _ _ _ _ _ _ _ _ _ _ _ _ _ _ _ _ _ _ _ _ _ _ _ _ _ _ _ _ _ _ _ _ _ _ _ _ _ _ _ _ _ _ HR0.out HRL.out hm512 (HB13.out.trans (HB35.out.mono HB13.out.size)) HOKR.out (fun W hW => HC11.out W (HB35.out.trans (hW.mono HB35.out.size))) (fun W hW => HCU.out W (HB35.out.trans (hW.mono HB35.out.size))) (fun W hW => HCV.out W (HB35.out.trans (hW.mono HB35.out.size))) htI htI3 ht0 htn (by omega)
                (fun W hW => HO.out.below (HB23.out.trans ((HB35.out.trans (hW.mono HB35.out.size)).mono HB23.out.size))) HGO.out HG.out HALL3.out HBEST3.out hun hb (by rw [HDU.out]; exact hu0) HR3.out HNL3.out HM3.out ?_
              intro d4 d18 d19 d20 d21 d22 d23 d24 d25 d173 d174 d175 d176 d177 d178 d179 d180 d181 d182 d183 d184 d185 d186 d187 d188 d189 d190 d191 d192 d193 d194 d195 d196 d197 d198 d199 d200 d201 d202 d203 d204 d205 d206 d207 d208 d209 d210 d211 d212 d213 d214 d215 d216 d217 d218 d219 d220 d221 d222 d223 d224 d225 d226 d227 d228 d229 d230 d231 d232 d233 d234 d235 d236 d237 d238 d239 d240 d241 d242 d243 d244 d245 d246 d247 d248 d249 d250 d251 d252 d253 d254 d255 d256 d257 d258 d259 d260 d261 d262 d263 d264 d265 d266 d267 d268 d269 d270 d271 w9 hb9
              have HB39 := Lib.hid (HB35.out.trans (hb9.mono HB35.out.size))
              clear hb9
              go_wp2
              go_roundw
              case rel => exact ⟨t + 1, by omega, by rw [HPV.out, HDV.out, show d - du + l = d - dv by omega], by go_num, HB39.out⟩
              case measure => simp [intOf]; omega
            · skip
              obtain rfl : t = t0 := by omega
              have hz : distM M (pt t) b = 0 := by rw [HLAST.out]; exact HG.out.self b
              rw [hz, Int.sub_zero]
              have HBE := Lib.hid (HB13.out.trans (HBT.out.mono HB13.out.size))
              clear hz
              go_wp2_with fail
              refine (HWK.out _).mono ?_
              rintro e w8 ⟨rfl, hb8⟩
              go_wp2
              go_ret
              exact ⟨rfl, HBE.out.trans (hb8.mono HBE.out.size)⟩
        · skip
          rw [way_none HG.out hok] at ho2
          obtain ⟨A2, c2, rfl, _, _⟩ := ownsRow_form ho2
          rw [decide_eq_false hok] at q2
          have HBE := Lib.hid (HB1.out.trans (HB2.out.mono HB1.out.size))
          clear ho2
          go_wp2_with fail
          refine q2.mono ?_
          rintro e w3 ⟨rfl, hb3⟩
          have HBF := Lib.hid (HBE.out.trans (hb3.mono HBE.out.size))
          clear hb3 q2
          go_wp2_with fail
          refine (HWK.out _).mono ?_
          rintro e w8 ⟨rfl, hb8⟩
          go_wp2
          go_ret
          exact ⟨rfl, HBF.out.trans (hb8.mono HBF.out.size)⟩
  · obtain rfl := hbad hE
    have hEI : ¬ (newE names roads = 0) := hE
    generalize newE names roads = E at hEI
    clear hbad hgood hE
    cases fw
    · go_wp2_with fail
      refine hf.mono ?_
      rintro e w' ⟨rfl, rfl⟩
      go_wp2_with fail
      refine (HWK.out _).mono ?_
      rintro e w2 ⟨rfl, hb2⟩
      go_wp2
      go_ret
      exact ⟨rfl, HB1.out.trans (hb2.mono HB1.out.size)⟩
    · go_wp2_with fail
      refine hf.mono ?_
      rintro e w' ⟨rfl, rfl⟩
      go_wp2_with fail
      refine (HWK.out _).mono ?_
      rintro e w2 ⟨rfl, hb2⟩
      go_wp2
      go_ret
      exact ⟨rfl, HB1.out.trans (hb2.mono HB1.out.size)⟩
end Go.Proofs.YtdelkgfodeilkaaDoor
