/- b10Long, b10At. -/
import Derived.Test.YtojbgeimlipajaaW3
import Derived.RangeFuncOwn
import Derived.ProofKit
namespace Go.Proofs.Ytojbgeimlipajaa
open Go.RowKit Fl

def IsRow (k : IntKind) (w : World) (a : Option Addr) (len cap : Nat) (zs : List Int) : Prop :=
  (a = none ∧ len = 0 ∧ cap = 0 ∧ zs = []) ∨
  ∃ x, a = some x ∧ len ≤ cap ∧ cap ≤ maxLen ∧ zs.length = cap ∧ (∀ i, i < zs.length → w.cell? (x.add i) = some (.int k (zs.getD i 0))) ∧ ∀ n ∈ zs, (Lit.int k n).wf = true

theorem IsRow.len {k : IntKind} {w : World} {a : Option Addr} {len cap : Nat} {zs : List Int} (h : IsRow k w a len cap zs) : len ≤ maxLen := by
  rcases h with ⟨_, rfl, _⟩ | ⟨x, _, h1, h2, _⟩ <;> omega

-- b10Long (4)
theorem long_any (a1 a2 : Option Addr) (l1 c1 l2 c2 : Nat) (w : World) :
    Calls Try.prog 4 #[.slice a1 l1 c1, .slice a2 l2 c2] w fun e w' => e = .returned (.bool (decide ((1048576 : Int) < l1) || decide ((1048576 : Int) < l2))) ∧ w = w' := by
  go_enter Try.func4, Try.ntmps4
  by_cases h1 : (1048576 : Int) < l1
  · go_wp2
    go_ret
    exact ⟨by simp [h1], rfl⟩
  · go_wp2
    go_ret
    exact ⟨by have h1' : ¬ (1048576 : Int) < l1 := by omega
              simp [h1'], rfl⟩

-- b10At (5)
theorem at_any (a : Option Addr) (len cap : Nat) (zs : List Int) (w0 : World) (h : IsRow .u8 w0 a len cap zs) (i n : Nat) (hn : 2 ≤ n) (hn2 : n ≤ 100) (hi : i ≤ 100) :
    ∃ r : Nat, r < n ∧ ∀ w, Below w0.heap.size w0 w → Calls Try.prog 6 #[.slice a len cap, .int .i64 i, .int .i64 n] w fun e w' => e = .returned (.int .i64 (r : Int)) ∧ w = w' := by
  have n2 : (2 : Int) ≤ (n : Int) := by omega
  have n3 : (n : Int) ≤ 100 := by omega
  have i0 : (0 : Int) ≤ (i : Int) := by omega
  have i1 : (i : Int) ≤ 100 := by omega
  have hl := h.len
  have hl' : len ≤ 9223372036854775807 := Nat.le_trans hl (by decide)
  by_cases hlt : i < len
  · rcases h with ⟨_, rfl, _⟩ | ⟨x, rfl, h1, h2, h3, h4, h5⟩
    · omega
    · have hc0 := h4 i (by omega)
      have hwf := h5 (zs.getD i 0) (by
        have hi' : i < zs.length := by omega
        rw [List.getD_eq_getElem?_getD, List.getElem?_eq_getElem hi']; exact List.getElem_mem hi')
      obtain ⟨o, ho, _⟩ := cells_of_cell hc0
      have hb : (x.add i).block < w0.heap.size := (Array.getElem?_eq_some_iff.1 ho).1
      generalize zs.getD i 0 = z at *
      obtain ⟨z0, z1⟩ : 0 ≤ z ∧ z ≤ 255 := by
        simp [Lit.wf] at hwf
        exact ⟨hwf.1, hwf.2⟩
      have zm0 : 0 ≤ z % (n : Int) := Int.emod_nonneg _ (by omega)
      have zm1 : z % (n : Int) < n := Int.emod_lt_of_pos _ (by omega)
      refine ⟨(z % n).toNat, by omega, fun w hw => ?_⟩
      have hc := (hw.cell (p := x.add i) hb).trans hc0
      have e : ((z % (n : Int)).toNat : Int) = z % (n : Int) := by omega
      have ilt : (i : Int) < (len : Int) := by omega
      rw [e]
      clear h4 h5 h3 hc0 ho e
      go_enter Try.func6, Try.ntmps6
      go_wp2
      go_ret
      exact ⟨rfl, rfl⟩
  · refine ⟨((i * 37 + 11) % n), Nat.mod_lt _ (by omega), fun w hw => ?_⟩
    have ilt : ¬ (i : Int) < (len : Int) := by omega
    go_enter Try.func6, Try.ntmps6
    go_wp2
    go_ret
    exact ⟨by simp, rfl⟩
end Go.Proofs.Ytojbgeimlipajaa
