/- A region that draws its order, in the body of a loop over an iterator ('a round'): the plain walk's word serves there too. The contract of slices.Backward's iterator over entries. Conditions: no deferred call in the region; the slice reads as entries in a block below n0. -/
import Derived.Test.YthekkddmbomimaaDirH
import Derived.RangeFuncNested
import Derived.RangeFuncBound
import Derived.RangeFuncCalls
import Derived.RangeFuncLeaves
import Derived.Shelf.Abstract
import Derived.Shelf.RegionOpen
import Derived.OwnWalkIn
import Derived.TacticsInMore
import Derived.LoopNIn
import Derived.LoopIn
namespace Go.Proofs.Ythekkddmbomimaa
open Go.RowKit
set_option maxRecDepth 100000
attribute [local go_sem] Oper.semAt_some

section
variable {P : Program} {ops : Array Oper} {Q : Exit → Act → World → Prop} {md : Region.Mode}
def noDefer (ops : Array Oper) : Bool := ops.all fun o => match o.op with | .defer _ => false | _ => true
theorem noDefer_spec (h : noDefer ops = true) {i : Nat} {o : Oper} (ho : ops[i]? = some o) : ∀ c, o.op ≠ .defer c := by
  intro c e
  have := Array.all_eq_true'.1 h o (Array.mem_of_getElem? ho)
  simp [e] at this
theorem wpOpIn_of_wpOp (l n : Nat) (hnd : noDefer ops = true) (hQ : ∀ a w, ¬ Q .outgrown a w) {i : Nat} {K : Act → World → Prop} {a : Act} {w : World}
    (h : wpOp P ops Q i K a w) : wpOpIn (Fence.wide.inRound l) n P ops Q i K a w := by
  unfold wpOp at h
  unfold wpOpIn
  cases ho : ops[i]? with
  | none => simpa [ho] using h
  | some o =>
    simp only [ho] at h ⊢
    split
    · rename_i hw
      rw [if_pos hw] at h
      rcases h with h | ⟨_, a', w', h⟩
      · refine ⟨fun _ _ => trivial, ?_⟩
        unfold Oper.wp at h
        rw [Oper.semAt_eq _ _ _ (noDefer_spec hnd ho)]
        generalize (execOp a.eval o).run P w = r at *
        cases r with
        | ok x w' =>
          cases x <;> simp only [Oper.upon, Oper.uponIn] at h ⊢ <;>
            first
              | exact h
              | exact ⟨fun e => by simp [Fence.wide] at e, CallsIn.inRound l (callsIn_wide.2 h)⟩
              | exact ⟨fun e => by simp [Fence.wide] at e, fun c cs _ => let ⟨v, w1, r, s⟩ := h c cs; ⟨v, w1, r, by rw [fenced_inRound]; exact stepsIn_wide.2 s⟩⟩
              | exact h.elim
        | halt x w' => cases x <;> simp only [Oper.upon, Oper.uponIn] at h ⊢ <;> exact h
      · exact (hQ a' w' h).elim
    · rename_i hw
      rw [if_neg hw] at h
      exact ⟨fun _ _ => trivial, h⟩
theorem wpAnyIn_of_wpAny (l n : Nat) (hnd : noDefer ops = true) (hQ : ∀ a w, ¬ Q .outgrown a w) : ∀ (fuel : Nat) (listed : Array Bool) (a : Act) (w : World),
    wpAny P md ops Q fuel listed a w → wpAnyIn (Fence.wide.inRound l) n P md ops Q fuel listed a w
  | 0, _, _, _, h => h
  | fuel + 1, _, _, _, h => ⟨h.1, fun i hi => wpOpIn_mono (fun a' w' h' => wpAnyIn_of_wpAny l n hnd hQ fuel _ a' w' h') (wpOpIn_of_wpOp l n hnd hQ (h.2 i hi))⟩
/-- A drawn region in a round, out of the plain walk over its orders. -/
theorem region_in_round {S : World → Prop} (l n : Nat) (hm : P.follows .mixedOrders = true) (hnd : noDefer ops = true) (hQ : ∀ a w, ¬ Q .outgrown a w) {id : Nat} {a : Act} {w : World}
    (h : wpAnyH P .any ops Q S ops.size (Array.replicate ops.size false) a w.drew) : (Code.region id ops true).wpIn (Fence.wide.inRound l) n P Q a w :=
  wpIn_region_any hm (wpAnyIn_of_wpAny l n hnd hQ _ _ _ _ (wpAny_of_held _ _ _ _ h))
theorem wpOpsIn_of_wpOps (l n : Nat) (hnd : noDefer ops = true) (hQ : ∀ a w, ¬ Q .outgrown a w) : ∀ (is : List Nat) (a : Act) (w : World), wpOps P ops Q is a w → wpOpsIn (Fence.wide.inRound l) n P ops Q is a w
  | [], _, _, h => h
  | i :: is, a, w, h => by
    unfold wpOps at h
    unfold wpOpsIn
    cases ho : ops[i]? with
    | none => simp only [ho] at h ⊢; exact wpOpsIn_of_wpOps l n hnd hQ is a w h
    | some o =>
      simp only [ho] at h ⊢
      split
      · rename_i hw
        rw [if_pos hw] at h
        rcases h with h | ⟨_, a', w', h⟩
        · refine ⟨fun _ _ => trivial, ?_⟩
          unfold Oper.wp at h
          rw [Oper.semAt_eq _ _ _ (noDefer_spec hnd ho)]
          generalize (execOp a.eval o).run P w = r at *
          have ih := wpOpsIn_of_wpOps l n hnd hQ is
          cases r with
          | ok x w' =>
            cases x <;> simp only [Oper.upon, Oper.uponIn] at h ⊢ <;>
              first
                | exact h
                | exact ih _ _ h
                | exact ⟨fun e => by simp [Fence.wide] at e, CallsIn.inRound l (callsIn_wide.2 (h.mono fun e w2 hh => by cases e <;> first | exact ih _ _ hh | exact hh))⟩
                | exact ⟨fun e => by simp [Fence.wide] at e, fun c cs _ => let ⟨v, w1, r, s⟩ := h c cs; ⟨v, w1, ih _ _ r, by rw [fenced_inRound]; exact stepsIn_wide.2 s⟩⟩
                | exact h.elim
          | halt x w' => cases x <;> simp only [Oper.upon, Oper.uponIn] at h ⊢ <;> exact h
        · exact (hQ a' w' h).elim
      · rename_i hw
        rw [if_neg hw] at h
        exact ⟨fun _ _ => trivial, wpOpsIn_of_wpOps l n hnd hQ is _ _ h⟩
/-- A region that draws no order, in a round, out of the plain walk. -/
theorem region_in_round_lit (l n : Nat) {l' : List Oper} (hnd : noDefer l'.toArray = true) (hQ : ∀ a w, ¬ Q .outgrown a w) {id : Nat} {a : Act} {w : World}
    (h : wpList P l'.toArray Q l' a w) : (Code.region id l'.toArray false).wpIn (Fence.wide.inRound l) n P Q a w :=
  wpIn_region (wpOpsIn_of_wpOps l n hnd hQ _ _ _ (by rw [List.range_eq_range', ← Array.length_toList, wpOps_eq_wpList l'.toArray.toList 0 (by simp)]; simpa using h))
/-- One operation that comes up: a call of a Go function, met by its contract; an operation that yields a value and may turn the world. -/
theorem wpOp_call {i : Nat} {o : Oper} {K : Act → World → Prop} {a : Act} {w : World} (ho : ops[i]? = some o) (hg : o.guard = none) (f : FuncId) (args : Array Value) (hrun : (execOp a.eval o).run P w = .ok (.enter f args) w)
    (h : Calls P f args w fun e w'' => ∃ v, e = .returned v ∧ K (a.put o.dst v) w'') : wpOp P ops Q i K a w := by
  unfold wpOp
  rw [ho]
  simp only [Region.wanted, hg, if_true]
  refine .inl ?_
  unfold Oper.wp
  rw [hrun, Oper.upon_enter]
  exact h.mono fun e w'' ⟨v, he, hk⟩ => by subst he; exact hk
theorem run_load_blk {w : World} {b : Nat} {cs : List Value} {t : TypeId} (h : Blk w b cs t) (ty : TypeId) (d : TypeDesc) (hu : P.underlying ty = some d)
    (hd : (match d with | .struct _ | .array _ _ => true | _ => false) = true) (hi : (P.info? ty).map (·.size) = some cs.toArray.size) (ρ : Operand → Value) (o : Oper) (x : Operand) (ho : o.op = .load ty x) (hx : ρ x = .pointer (some ⟨b, 0, none⟩)) :
    (execOp ρ o).run P w = .ok (.value (.agg cs.toArray)) w := by
  unfold execOp
  simp only [ho, hx, Instr.loadAt, Instr.sureAddr, Sem.run_bind, Sem.run_pure, Result.andThen_ok, run_loadVar_row w b t ty cs.toArray (0, 0) d h hu hd hi]
end
end Go.Proofs.Ythekkddmbomimaa
