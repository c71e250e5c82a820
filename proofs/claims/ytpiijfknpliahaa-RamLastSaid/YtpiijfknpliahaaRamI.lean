/- Contracts of hit and forget over the memory; of New, Used, keys. Conditions: the receiver is a memory. -/
import Derived.Test.YtpiijfknpliahaaRamH
namespace Go.Proofs.Ytpiijfknpliahaa
open Go.RowKit
set_option maxRecDepth 100000
attribute [local go_sem] Oper.semAt_some

def hitI (x : It) : It := { x with hits := min (x.hits + 1) 1000 }
def oldI (x : It) : It := { x with b := [] }
variable {ro : Nat → Nat} {w w' : World} {r lim used : Nat} {L P X : Ents}
theorem RamAt.apart (h : RamAt ro w r lim used L P X) : ((L ++ P ++ X).map (·.1)).Nodup := h.nodup
theorem nodup_ne {A B : Ents} {p : Nat × It} (h : ((A ++ B).map (·.1)).Nodup) (hp : p ∈ B) : ∀ q ∈ A, q.1 ≠ p.1 := by
  rw [List.map_append, List.nodup_append] at h
  exact fun q hq => h.2.2 _ (List.mem_map_of_mem hq) _ (List.mem_map_of_mem hp)
theorem nodup_ne' {A B : Ents} {p : Nat × It} (h : ((A ++ B).map (·.1)).Nodup) (hp : p ∈ A) : ∀ q ∈ B, q.1 ≠ p.1 := by
  rw [List.map_append, List.nodup_append] at h
  exact fun q hq e => h.2.2 _ (List.mem_map_of_mem hp) _ (List.mem_map_of_mem hq) e.symm
theorem upd_set {E : Ents} {i : Nat} {p : Nat × It} (x : It) (h : (E.map (·.1)).Nodup) (hp : E[i]? = some p) : upd p.1 x E = E.set i (p.1, x) := by
  obtain ⟨hi, he⟩ := List.getElem?_eq_some_iff.1 hp
  have e : E = E.take i ++ p :: E.drop (i + 1) := by rw [← he]; simp
  rw [e] at h
  have h2 := nodup_upd (x := x) h
  rw [← e] at h2
  rw [h2, List.set_eq_take_append_cons_drop, if_pos hi]
theorem RamAt.setX {p : Nat × It} {x : It} (h : RamAt ro w r lim used L P (p :: X)) (vb : Value) (hb : Blk w' p.1 (entV x vb) 65) (k : Keeps (fun b => b = p.1) w w') (hv : SlO w vb 5 1 x.b.length (bytesV x.b)) (hr : ∀ g, blkOf vb = some g → ro g = 5)
    (h1 : x.hits ≤ 1000) (s1 : x.size ≤ 65600) (b1 : x.b.length ≤ 65536) : RamAt ro w' r lim used L P ((p.1, x) :: X) := by
  have hn := h.nodup
  have hmem : p ∈ L ++ P ++ p :: X := by simp
  have h2 := h.setEnt hmem vb hb k hv hr h1 s1 b1
  have hLP : ∀ q ∈ L ++ P, q.1 ≠ p.1 := nodup_ne hn (List.mem_cons_self ..)
  rw [upd_not (fun q hq => hLP q (by simp [hq])), upd_not (fun q hq => hLP q (by simp [hq])), show upd p.1 x (p :: X) = (p.1, x) :: X from ?_] at h2
  · exact h2
  · have := nodup_upd (x := x) (A := L ++ P) hn
    rw [upd_append, upd_not hLP] at this
    exact List.append_cancel_left this
theorem RamAt.keepsR {p : Nat × It} (h : RamAt ro w r lim used L P X) (hp : p ∈ L ++ P ++ X) (k : Keeps (fun b => b = p.1) w w') : Keeps (fun b => ro b ≠ 0) w w' :=
  k.mono (fun b e => by subst e; have := (h.ents p hp).role; omega)
theorem hit_X {p : Nat × It} (h : RamAt ro w r lim used L P (p :: X)) :
    Calls Try.prog 34 #[.pointer (some ⟨p.1, 0, none⟩)] w fun e w' => e = .returned (.tuple #[]) ∧ RamAt ro w' r lim used L P ((p.1, hitI p.2) :: X) ∧ Keeps (fun b => ro b ≠ 0) w w' := by
  have hm : p ∈ L ++ P ++ p :: X := by simp
  have he := h.ents p hm
  obtain ⟨vb, hb, hv, hr⟩ := he.ex
  refine (hit_any hb he.h1).mono ?_
  rintro e w' ⟨rfl, h2, h3⟩
  exact ⟨rfl, h.setX vb h2 h3 hv hr (by show min _ _ ≤ _; omega) he.s1 he.b1, h.keepsR hm h3⟩
theorem hit_P {i : Nat} {p : Nat × It} (h : RamAt ro w r lim used L P X) (hp : P[i]? = some p) :
    Calls Try.prog 34 #[.pointer (some ⟨p.1, 0, none⟩)] w fun e w' => e = .returned (.tuple #[]) ∧ RamAt ro w' r lim used L (P.set i (p.1, hitI p.2)) X ∧ Keeps (fun b => ro b ≠ 0) w w' := by
  have hmP : p ∈ P := List.mem_of_getElem? hp
  have hm : p ∈ L ++ P ++ X := by simp [hmP]
  have he := h.ents p hm
  obtain ⟨vb, hb, hv, hr⟩ := he.ex
  refine (hit_any hb he.h1).mono ?_
  rintro e w' ⟨rfl, h2, h3⟩
  have h4 := h.setEnt hm vb h2 h3 hv hr (by show min _ _ ≤ _; omega) he.s1 he.b1
  have hn := h.nodup
  rw [List.append_assoc] at hn
  have hL : ∀ q ∈ L, q.1 ≠ p.1 := nodup_ne hn (by simp [hmP])
  have hX : ∀ q ∈ X, q.1 ≠ p.1 := by
    rw [List.map_append, List.nodup_append] at hn
    exact nodup_ne' hn.2.1 hmP
  have hPn : (P.map (·.1)).Nodup := by
    rw [List.map_append, List.nodup_append, List.map_append, List.nodup_append] at hn
    exact hn.2.1.1
  rw [upd_not hL, upd_not hX, upd_set _ hPn hp] at h4
  exact ⟨rfl, h4, h.keepsR hm h3⟩

theorem wpList_storeTo {P : Program} {ops : Array Oper} {rest : List Oper} {o : Oper} {a : Act} {w : World} {Q : Exit → Act → World → Prop} (w' : World) (ty : TypeId) (x y : Operand) (_ho : o.op = .store ty x y) (hgd : Region.wanted o (yielded ops a.tmps) = true)
    (hrun : (execOp a.eval o).run P w = .ok .skip w') (h : wpList P ops Q rest (a.put o.dst undef) w') : wpList P ops Q (o :: rest) a w := by
  unfold wpList
  rw [if_pos hgd]
  refine .inl ?_
  unfold Oper.wp
  rw [hrun]
  exact h
set_option maxHeartbeats 1000000 in
theorem forget_X {p : Nat × It} (h : RamAt ro w r lim used L P (p :: X)) (hn : P.length ≤ 1073741824) :
    Calls Try.prog 36 #[.pointer (some ⟨r, 0, none⟩), .pointer (some ⟨p.1, 0, none⟩)] w fun e w' => e = .returned (.tuple #[]) ∧ ∃ ro', RamAt ro' w' r lim used L (P ++ [(p.1, oldI p.2)]) X ∧ Keeps (fun b => ro b ≠ 0) w w' ∧ Grow ro ro' w := by
  have hm : p ∈ L ++ P ++ p :: X := by simp
  have he := h.ents p hm
  obtain ⟨vb, hb, hv, hr⟩ := he.ex
  have c0 := hb.cell (ent_b p.2 vb)
  have f0 := hb.frozen 32
  have hb2 : Blk (w.setCell ⟨p.1, 32, none⟩ (.slice none 0 0)) p.1 (entV (oldI p.2) (.slice none 0 0)) 65 := hb.setCell 32 _
  have hk2 : Keeps (fun b => b = p.1) w (w.setCell ⟨p.1, 32, none⟩ (.slice none 0 0)) := Keeps.setCell _ _ _ (fun _ => rfl)
  have h2 := h.setX _ hb2 hk2 (SlO.nil w 5 1) (fun g hg => by simp [blkOf] at hg) he.h1 he.s1 (Nat.zero_le _)
  have hkk := h.keepsR hm hk2
  generalize hw2 : w.setCell ⟨p.1, 32, none⟩ (.slice none 0 0) = w2 at *
  have HW2 := Lib.hid hw2
  have C0 := Lib.hid c0
  have F0 := Lib.hid f0
  clear hw2 c0 f0
  obtain ⟨vl, vp, hd⟩ := h2.head
  obtain ⟨v', w6, hrun, hown, hk6, hbk⟩ := push_core hd.sp hn p.1
  have hfin := h2.pushP hd hown hk6 hbk
  have c1 := hd.blk.cell (j := 3) rfl
  have hb6 : Blk w6 r [.int .i64 lim, .int .i64 used, vl, vp] 56 := hd.blk.keeps hk6 (fun e => by have := hd.rp _ e; have := h.rr; omega)
  have c6 := hb6.cell (j := 3) rfl
  have f6 := hb6.frozen 3
  obtain ⟨va, vc, rfl, _⟩ := hown.form
  obtain ⟨pa, pc, rfl, _⟩ := hd.sp.form
  have HFIN := Lib.hid hfin
  have HR := Lib.hid hrun
  have HKK := Lib.hid hkk
  clear hfin hrun hkk hown hk6 hbk hb6 hd h2 hk2 hb2 hv hr he hb h
  go_enter Try.func36, Try.ntmps36
  go_wp2_with (first
    | (refine wpList_storeTo w2 27 (.tmp 6) (.const (.slice none 0 0)) rfl rfl (by have h0 := C0.out; have h1 := F0.out; have h2 := HW2.out; go_simp) ?_)
    | (refine wpList_runAppend rfl (.tmp 11) (.tmp 13) 54 54 rfl _ w6 (by exact HR.out) ?_))
  obtain ⟨ro', g1, g2, g3⟩ := HFIN.out
  go_end0
  refine ⟨rfl, ro', g1, HKK.out.trans g2, ?_⟩
  have hs : w2.heap.size = w.heap.size := by rw [← HW2.out]; simp [World.setCell]
  exact ⟨fun b hb => g3.1 b (by omega), fun b hb => by have := g3.2 b hb; omega⟩
end Go.Proofs.Ytpiijfknpliahaa
