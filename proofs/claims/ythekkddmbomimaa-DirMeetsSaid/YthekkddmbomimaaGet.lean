/- The document's Get: the bytes' number. Conditions: at most eight bytes, each below 256. And the document's New, Bucket, Tag. -/
import Derived.Test.YthekkddmbomimaaKey
namespace Go.Proofs.Ythekkddmbomimaa
open Go.RowKit
set_option maxRecDepth 100000
attribute [local go_sem] Oper.semAt_some

def beN (l : List Nat) : Nat := l.foldl (fun n b => n * 256 + b) 0
theorem beN_snoc (l : List Nat) (b : Nat) : beN (l ++ [b]) = beN l * 256 + b := by simp [beN]
theorem beN_fold (l : List Nat) (h : ∀ b ∈ l, b < 256) : ∀ n, l.foldl (fun n b => n * 256 + b) n < (n + 1) * 256 ^ l.length := by
  induction l with
  | nil => intro n; simp
  | cons b l ih =>
    intro n
    have h1 := ih (fun x hx => h x (by simp [hx])) (n * 256 + b)
    have h2 := h b (by simp)
    have h3 : (n * 256 + b + 1) * 256 ^ l.length ≤ (n + 1) * 256 * 256 ^ l.length := Nat.mul_le_mul_right _ (by omega)
    rw [List.foldl_cons, List.length_cons, Nat.pow_succ]
    have h4 : (n + 1) * 256 * 256 ^ l.length = (n + 1) * (256 ^ l.length * 256) := by rw [Nat.mul_assoc, Nat.mul_comm 256]
    omega
theorem beN_lt (l : List Nat) (h : ∀ b ∈ l, b < 256) : beN l < 256 ^ l.length := by
  have := beN_fold l h 0
  simpa [beN] using this
theorem u64_or' (i : Nat) (x y : Int) (hx₀ : 0 ≤ x) (hx : x % 2 ^ i = 0) (hx₁ : x < 18446744073709551616) (h₀ : 0 ≤ y) (h₁ : y < 2 ^ i) (h₂ : y < 18446744073709551616) : bits .or .u64 x y = x + y :=
  bits_join .u64 64 (by decide) wraps_u64 i x y hx₀ hx hx₁ h₀ h₁ h₂

theorem Get_any (w : World) (b off c : Nat) (L : List Nat) (hL : ∀ x ∈ L, x < 256) (h8 : L.length ≤ 8) (hc : ∀ (j : Nat) (x : Nat), L[j]? = some x → w.cell? ⟨b, off + j, none⟩ = some (.int .u8 x)) :
    Calls Try.prog 36 #[.slice (some ⟨b, off, none⟩) L.length c] w fun e w' => e = .returned (.int .u64 (beN L)) ∧ w' = w := by
  have HL := Lib.hid hL
  have HC := Lib.hid hc
  clear hL hc
  go_enter Try.func36, Try.ntmps36
  go_wp2
  go_loopw [3, 4] (fun s3 s4 wr => ∃ (j n : Nat), s3 = .int .u64 n ∧ s4 = .int .i64 j ∧ Hid (n = beN (L.take j)) ∧ j ≤ L.length ∧ wr = w) (fun _ s4 _ => L.length - (intOf s4).toNat)
  case atStart => exact ⟨0, 0, by go_num, rfl, Lib.hid rfl, by omega, rfl⟩
  case round =>
    obtain ⟨j, n, rfl, rfl, hn, hj, rfl⟩ := hrel
    by_cases hlt : j < L.length
    · obtain ⟨x, hx⟩ : ∃ x, L[j]? = some x := ⟨L[j], by simp [hlt]⟩
      have hx2 : x < 256 := HL.out x (List.mem_of_getElem? hx)
      have c0 := HC.out j x hx
      have hb : n < 256 ^ 7 := by
        rw [hn.out]
        have := beN_lt (L.take j) (fun y hy => HL.out y (List.mem_of_mem_take hy))
        rw [List.length_take] at this
        exact Nat.lt_of_lt_of_le this (Nat.pow_le_pow_right (by omega) (by omega))
      have hb2 : n < 72057594037927936 := by simpa using hb
      have e1 : IntKind.u64.wrap ((n : Int) * 256) = (n : Int) * 256 := by rw [IntKind.wrap_u64]; omega
      have e2 : bits .or .u64 ((n : Int) * 256) (x : Int) = (n : Int) * 256 + x := u64_or' 8 _ _ (by omega) (by omega) (by omega) (by omega) (by omega) (by omega)
      have hs : n * 256 + x = beN (L.take (j + 1)) := by
        rw [List.take_add_one, hx]
        show _ = beN (L.take j ++ [x])
        rw [beN_snoc, hn.out]
      have HN := Lib.hid hs
      have a1 : (j : Int) < L.length := by omega
      have a2 : (0 : Int) ≤ j := by omega
      clear hs hb hx
      go_wp2
      go_roundw
      case rel => exact ⟨j + 1, n * 256 + x, by go_num, by go_num, HN, by omega, trivial⟩
      case measure => simp [intOf]; omega
    · have a1 : ¬ (j : Int) < L.length := by omega
      have hfin : n = beN L := by
        rw [hn.out, List.take_of_length_le (by omega)]
      have HF := Lib.hid hfin
      clear hfin
      go_wp2
      go_ret
      exact ⟨by rw [← HF.out]; rfl, rfl⟩
end Go.Proofs.Ythekkddmbomimaa
