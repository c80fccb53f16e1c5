/-
  layer 4: what units gives. Conditions: none.
-/
import Derived.Test.YtohggdfplmlinaaGreatDoorZaag
import Derived.Test.YtohggdfplmlinaaGreatDoorZaah
import Derived.StillTailTactics
import Derived.Test.YtohggdfplmlinaaGreatDoorZaab
import Derived.Deep.RegionHeldLaw
import Derived.RangeFuncLeaves
namespace Go.Proofs.YtohggdfplmlinaaGreatDoor
open Go.RowKit Go.Lib

theorem nunits_any (g : Nat) (s : ByteArray) (w : World) : Calls Tryz.prog 72 #[wptr g, .string s] w fun e w' =>
      e = .returned (.func (.func 91) #[] #[wptr (w.heap.size + 1), wptr w.heap.size]) ∧ w' = (w.alloc (.cells #[wptr g] 32)).alloc (.cells #[.string s] 9) := by
  go_enter Tryz.func72, Tryz.ntmps72
  go_wp2
  go_ret
  exact ⟨rfl, rfl⟩
end Go.Proofs.YtohggdfplmlinaaGreatDoor
namespace Go.Proofs.YtohggdfplmlinaaGreatDoor
section
variable {P : Program} {ops : Array Oper} {md : Region.Mode} {n l : Nat} {Q : Exit → Act → World → Prop}
def noDefer (o : Oper) : Bool := match o.op with | .defer _ => false | _ => true
theorem rowsIn_of_rows {row : String} {args : Array Value} {w : World} {R : Value → World → Prop} (h : Rows P row args w R) : RowsIn (Fence.wide.inRound l) n P row args w R :=
  fun c cs _ => let ⟨v, w', r, s⟩ := h c cs; ⟨v, w', r, stepsIn_wide.2 s⟩
theorem Oper.wpIn_of_wp {o : Oper} {a : Act} {w : World} {K : Act → World → Prop} (hd : noDefer o = true) (h : o.wp P a w K Q) : o.wpIn (Fence.wide.inRound l) n P a w K Q := by
  refine ⟨fun _ _ => trivial, ?_⟩
  rw [Oper.semAt_eq _ _ _ (fun c e => by unfold noDefer at hd; rw [e] at hd; cases hd)]
  unfold Oper.wp at h
  generalize (execOp a.eval o).run P w = r at *
  cases r with
  | ok nx w' =>
    cases nx with
    | value v => exact h
    | skip => exact h
    | defer d => exact h
    | enter f args => exact ⟨fun h => (by cases h), callsIn_wide (n := n - 1).2 h⟩
    | row row args => exact ⟨fun h => (by cases h), rowsIn_of_rows h⟩
    | round l f tmps assign body => exact h.elim
    | _ => exact h
  | halt x w' =>
    cases x with
    | panic v => exact h
    | _ => exact h
theorem wpOpIn_of_wpOp (hd : ∀ (i : Nat) (o : Oper), ops[i]? = some o → noDefer o = true) (hQ : ¬ LetsOut Q) {i : Nat} {K : Act → World → Prop} {a : Act} {w : World} (h : wpOp P ops Q i K a w) : wpOpIn (Fence.wide.inRound l) n P ops Q i K a w := by
  unfold wpOp at h
  unfold wpOpIn
  split
  · rename_i ho; simp only [ho] at h; exact h
  · rename_i o ho
    simp only [ho] at h
    split
    · rename_i hw
      simp only [hw, if_true] at h
      rcases h with h | h
      · exact Oper.wpIn_of_wp (hd i o ho) h
      · exact absurd h.2 hQ
    · rename_i hw; simp only [hw] at h; exact ⟨fun _ _ => trivial, h⟩
theorem wpAnyIn_of_wpAny (hd : ∀ (i : Nat) (o : Oper), ops[i]? = some o → noDefer o = true) (hQ : ¬ LetsOut Q) : ∀ (fuel : Nat) (listed : Array Bool) (a : Act) (w : World), wpAny P md ops Q fuel listed a w → wpAnyIn (Fence.wide.inRound l) n P md ops Q fuel listed a w
  | 0, _, _, _, h => h
  | fuel + 1, _, _, _, h => ⟨h.1, fun i hi => wpOpIn_of_wpOp hd hQ (wpOp_mono (fun a' w' h' => wpAnyIn_of_wpAny hd hQ fuel _ a' w' h') (h.2 i hi))⟩
theorem noDefer_of {ops : List Oper} (h : ops.all noDefer = true) (i : Nat) (o : Oper) (ho : ops.toArray[i]? = some o) : noDefer o = true := by
  rw [List.getElem?_toArray] at ho
  exact List.all_eq_true.1 h o (List.mem_of_getElem? ho)
/-- The held walk of a region inside a round. -/
theorem wpIn_region_held {id : Nat} {a : Act} {w : World} {ops : List Oper} {S : World → Prop} (hm : P.follows .mixedOrders = true) (hd : ops.all noDefer = true) (hQ : ¬ LetsOut Q) (hS : S w.drew)
    (h : S w.drew → wpAnyH P .any ops.toArray Q S ops.toArray.size (Array.replicate ops.toArray.size false) a w.drew) : (Code.region id ops.toArray true).wpIn (Fence.wide.inRound l) n P Q a w :=
  wpIn_region_any hm (wpAnyIn_of_wpAny (noDefer_of hd) hQ _ _ _ _ (wpAny_of_held _ _ _ _ (h hS)))
theorem leavesIn_congr {F : Fence} {m : Nat} {fn : Func} {R : Ending → World → Prop} {t t' : Array Value} (h : ∀ w, (results fn t').run P w = (results fn t).run P w) : ∀ (ds : List Deferred) (u : FrameMode) (w : World), LeavesIn F m P fn t R ds u w → LeavesIn F m P fn t' R ds u w
  | [], .returning, w, ⟨v, h1, h2⟩ => ⟨v, (h w).trans h1, h2⟩
  | [], .panicking _, _, h1 => h1
  | [], .run, _, h1 => h1
  | d :: ds, u, w, ⟨h0, h1, fv, cap, f, args, h2, h3, hl, h4⟩ => ⟨h0, h1, fv, cap, f, args, h2, h3, hl, h4.mono fun e u' w' h5 => by
      cases e with
      | returned x => exact leavesIn_congr h ds _ _ h5
      | panicked c => exact leavesIn_congr h ds _ _ h5
      | outgrown => exact h5⟩
theorem leavesM_congr {F : Fence} {m : Nat} {fn : Func} {R : Ending → World → Prop} {t t' : Array Value} (h : ∀ w, (results fn t').run P w = (results fn t).run P w) : ∀ (ds : List Deferred) (u : FrameMode) (w : World), LeavesInM F m P fn t R ds u w → LeavesInM F m P fn t' R ds u w
  | [], _, w, h1 => leavesIn_congr h [] _ w h1
  | d :: ds, u, w, ⟨h0, h1⟩ => ⟨h0, h1.imp (fun ⟨r, w', e1, e2, e3⟩ => ⟨r, w', e1, e2, leavesM_congr h ds u w' e3⟩) (fun ⟨h1, fv, cap, f, args, h2, h3, hl, h4⟩ => ⟨h1, fv, cap, f, args, h2, h3, hl, h4.mono fun e u' w' h5 => by
      cases e with
      | returned x => exact leavesM_congr h ds _ _ h5
      | panicked c => exact leavesM_congr h ds _ _ h5
      | outgrown => exact h5⟩)⟩
/-- A slot that the results do not read makes no difference on a panic. -/
theorem quietM {F : Fence} {m : Nat} {fn : Func} {R : Ending → World → Prop} {K : Act → World → Prop} (i : Nat) (hr : ∀ (t : Array Value) (v : Value) (w : World), (results fn (t.setIfInBounds i v)).run P w = (results fn t).run P w) (v : Value) (c : List PanicEntry) (a : Act) (w : World)
    (h : Exit.then K (bodyPostM F m P fn R) (.panic c) (a.put (some i) v) w) : Exit.then K (bodyPostM F m P fn R) (.panic c) a w :=
  leavesM_congr (t := a.tmps.setIfInBounds i v) (fun W => (hr a.tmps v W).symm) a.defers (.panicking c) w h
end
end Go.Proofs.YtohggdfplmlinaaGreatDoor
