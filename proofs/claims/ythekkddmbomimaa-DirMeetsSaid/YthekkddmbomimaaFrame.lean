/- What the frames of this seat's statements share: the post where only new blocks were made; a key that came in, opened. -/
import Derived.Test.YthekkddmbomimaaRows
import Derived.WalkKit
import Derived.ProofKit
import Derived.OpenShut
import Derived.Test.YthekkddmbomimaaKeys
namespace Go.Proofs.Ythekkddmbomimaa
open Go.ChangeShapes Go.WideShapes Go.ChangeAt Go.RowKit

theorem ownKnob_none : ownKnob Try.prog.godebug = none := by kernel_rfl
theorem laidOut : laidOutB Try.prog = true := by kernel_rfl

theorem post_below {H : Type} {enc : TypeId × Value → H} {P : Program} {f : Func} {s : ChangeSpec} {apart fresh handsOn again : Bool} {W W' : World} {args : Array Value} {v : Value} {ds gs : List (DataW H)} {before pa pv : List MemPlace}
    (hW : DataW.Whole enc P f.params.toList s.vars apart W args.toList ds gs before) (hb : Below W.heap.size W W')
    (hres : ∀ (b : Nat) (sp : Nat → Bool) (hd : Bool), DataW.TrodAll enc P W' b sp hd f.resultTypes.toList (v.resultList f.resultTypes.size) (s.fn H (ds ++ gs)).results [])
    (hargs : ∀ sp : Nat → Bool, (∀ p ∈ before, sp p.block = true) → DataW.TrodAll enc P W' 0 sp true f.params.toList args.toList (s.fn H (ds ++ gs)).args pa)
    (hvars : ∀ sp : Nat → Bool, (∀ p ∈ before, sp p.block = true) → DataW.TrodVars enc P W' sp s.vars (s.fn H (ds ++ gs)).vars pv) (hps : before = pa ++ pv)
    (hok : ∀ (j : Nat) (t : TypeId) (r : Value), f.resultTypes[j]? = some t → (v.resultList f.resultTypes.size)[j]? = some r → Value.okWide P W' .any 0 t r) :
    s.post enc P f apart fresh handsOn again W args v W' := by
  have hlt : ∀ p ∈ before, p.block < W.heap.size := fun p hp => hW.lt p hp
  have hold : ∀ p ∈ before, (fun b => decide (b < W.heap.size)) p.block = true := fun p hp => by simpa using hlt p hp
  refine ⟨ds, gs, before, [], pa, pv, hW, hres _ _ _, hargs _ hold, hvars _ hold, hb.frame _, fun _ => ?_⟩
  obtain ⟨_, _, _, _, _, hz, hn⟩ := hW
  refine ⟨hok, _, _, ([] ++ pa) ++ pv, ⟨[] ++ pa, pv, trodAll_append (hargs _ (fun _ _ => rfl)) (hres _ _ _), hvars _ (fun _ _ => rfl), rfl, ?_, ?_⟩, ?_⟩
  · intro b off hp
    have hp' : MemPlace.cell b off ∈ before := by rw [hps]; simpa using hp
    rw [hb.frozen (p := ⟨b, off, none⟩) (hlt _ hp')]
    exact hz b off hp'
  · intro ha
    have := hn ha
    rw [hps] at this
    simpa using this
  · intro p hp _
    rw [hps]
    simpa using hp

theorem Try.cells23 : Try.prog.cellsOf 23 = 32 := by kernel_rfl
theorem cellTypes23 : Try.prog.cellTypes Try.prog.depth 23 = some (List.replicate 32 5) := by kernel_rfl
theorem open_key {W : World} {base : Nat} {v : Value} (h : Value.okWide Try.prog W .any base 23 v) : ∃ ks : List Value, v = .agg ks.toArray ∧ ∃ n t, IsKey ks n t := by
  unfold Value.okWide at h
  rw [Try.underlying23] at h
  obtain ⟨cs, rfl, hsz, ts, hts, _, hc⟩ := h
  rw [Try.cells23] at hsz
  rw [cellTypes23] at hts
  obtain rfl := Option.some.inj hts
  have hcell : ∀ (i : Nat) (x : Value), cs.toList[i]? = some x → ∃ a : Nat, x = .int .u8 a ∧ a < 256 := by
    intro i x hx
    obtain ⟨u, hu, hok⟩ := hc i x (by simpa using hx)
    obtain rfl : u = 5 := (List.mem_replicate.1 (List.mem_of_getElem? hu)).2
    unfold Cell.okWide Cell.ok at hok
    rw [Try.underlying5] at hok
    cases x <;> simp only [] at hok
    obtain ⟨rfl, h1⟩ := hok
    rename_i m
    have h2 : 0 ≤ m ∧ m < 256 := by
      have h3 := h1
      simp [IntKind.has, IntKind.min, IntKind.max, IntKind.signed, IntKind.bits] at h3
      omega
    exact ⟨m.toNat, by rw [Int.toNat_of_nonneg h2.1], by omega⟩
  have hat : ∀ i, i < 32 → ∃ a : Nat, cs.toList[i]? = some (.int .u8 a) ∧ a < 256 := by
    intro i hi
    have hi' : i < cs.toList.length := by simpa [hsz] using hi
    obtain ⟨a, ha, hb⟩ := hcell i (cs.toList[i]) (by simp)
    exact ⟨a, by rw [← ha]; simp, hb⟩
  obtain ⟨a, ha, a'⟩ := hat 0 (by omega)
  obtain ⟨b, hb, b'⟩ := hat 1 (by omega)
  obtain ⟨c, hc', c'⟩ := hat 2 (by omega)
  obtain ⟨d, hd, d'⟩ := hat 3 (by omega)
  obtain ⟨x, hx, x'⟩ := hat 4 (by omega)
  obtain ⟨y, hy, y'⟩ := hat 5 (by omega)
  refine ⟨cs.toList, by simp, _, _, a, b, c, d, x, y, ha, hb, hc', hd, hx, hy, a', b', c', d', x', y', rfl, rfl, by simpa using hsz, fun v hv => ?_⟩
  obtain ⟨i, hi⟩ := List.getElem?_of_mem hv
  obtain ⟨z, rfl, _⟩ := hcell i v hi
  rfl
end Go.Proofs.Ythekkddmbomimaa
