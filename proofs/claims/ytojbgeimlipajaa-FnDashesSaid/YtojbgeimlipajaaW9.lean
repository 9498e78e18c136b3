/- Walks: a number of the source. -/
import Derived.Test.YtojbgeimlipajaaW8
import Derived.OneCell
import Derived.IntWalk
namespace Go.Proofs.Ytojbgeimlipajaa
open Go.RowKit Fl

/-- the source's struct: a block of three cells -/
def Src (w : World) (p : Nat) (a : Option Addr) (len cap : Nat) (t s : Int) : Prop := w.heap[p]? = some (.cells #[.slice a len cap, .int .i64 t, .int .u64 s] 52 (0, 0))
theorem Src.c0 {w : World} {p : Nat} {a : Option Addr} {len cap : Nat} {t s : Int} (h : Src w p a len cap t s) : w.cell? ⟨p, 0, none⟩ = some (.slice a len cap) := by unfold Src at h; simp [World.cell?, h]
theorem Src.c1 {w : World} {p : Nat} {a : Option Addr} {len cap : Nat} {t s : Int} (h : Src w p a len cap t s) : w.cell? ⟨p, 1, none⟩ = some (.int .i64 t) := by unfold Src at h; simp [World.cell?, h]
theorem Src.c2 {w : World} {p : Nat} {a : Option Addr} {len cap : Nat} {t s : Int} (h : Src w p a len cap t s) : w.cell? ⟨p, 2, none⟩ = some (.int .u64 s) := by unfold Src at h; simp [World.cell?, h]
theorem Src.f1 {w : World} {p : Nat} {a : Option Addr} {len cap : Nat} {t s : Int} (h : Src w p a len cap t s) : w.frozen? ⟨p, 1, none⟩ = false := by unfold Src at h; simp [World.frozen?, h]
theorem Src.f2 {w : World} {p : Nat} {a : Option Addr} {len cap : Nat} {t s : Int} (h : Src w p a len cap t s) : w.frozen? ⟨p, 2, none⟩ = false := by unfold Src at h; simp [World.frozen?, h]
theorem Src.set {w : World} {p : Nat} {a : Option Addr} {len cap : Nat} {t s t' s' : Int} (h : Src w p a len cap t s) (q q' : Nat) :
    Src ((((w.drewN q).setCell ⟨p, 1, none⟩ (.int .i64 t')).setCell ⟨p, 2, none⟩ (.int .u64 s')).drewN q') p a len cap t' s' := by
  have hlt := lt_of_block h
  have h' : w.heap[p] = .cells #[.slice a len cap, .int .i64 t, .int .u64 s] 52 (0, 0) := by unfold Src at h; simpa [Array.getElem?_eq_getElem hlt] using h
  have e1 : ∀ (u : World) (n : Nat), (u.drewN n).heap = u.heap := fun _ _ => rfl
  unfold Src
  rw [e1]
  unfold World.setCell
  dsimp only
  rw [e1]
  rw [Array.getElem?_eq_getElem (by simpa using hlt), Array.getElem_modify_self, Array.getElem_modify_self, h']
  rfl
theorem Src.by {w : World} {p : Nat} {x y : Value} (q q' : Nat) : w.grownBy ((((w.drewN q).setCell ⟨p, 1, none⟩ x).setCell ⟨p, 2, none⟩ y).drewN q') (some p) := by
  refine ⟨rfl, rfl, rfl, Nat.le_of_eq ?_, fun k hk hne => ?_⟩
  · have e1 : ∀ (u : World) (n : Nat), (u.drewN n).heap = u.heap := fun _ _ => rfl
    rw [e1]
    unfold World.setCell
    dsimp only
    rw [e1]
    simp
  have hkp : k ≠ p := fun e => hne (by rw [e])
  show ((((w.drewN q).setCell ⟨p, 1, none⟩ x).setCell ⟨p, 2, none⟩ y)).heap[k]? = _
  rw [Below.heap_setCell _ _ _ _ hkp, Below.heap_setCell _ _ _ _ hkp]
  rfl

theorem and255 (x : Int) (h0 : 0 ≤ x) (h1 : x < 16777216) : bits .and .u64 x 255 = x % 256 := by
  have h := bits_mask .u64 63 (by decide) (fun n h0 h1 => by rw [IntKind.wrap_u64]; omega) 8 (by decide) x (by omega) (by omega)
  have e : ((2 : Int) ^ 8 - 1) = 255 := by decide
  have e2 : ((2 : Int) ^ 8) = 256 := by decide
  rwa [e, e2] at h

def Next (w : World) (p : Nat) (a : Option Addr) (len cap : Nat) (t : Int) (e : Ending) (w' : World) : Prop :=
  ∃ (x : Nat) (s' : Int), x ≤ 255 ∧ e = .returned (.int .i64 (x : Int)) ∧ Src w' p a len cap (t + 1) s' ∧ w.grownBy w' (some p)

-- next (27)
theorem next_any (p : Nat) (a : Option Addr) (len cap t : Nat) (s : Int) (zs : List Int) (w : World) (h : IsRow .u8 w a len cap zs) (ht : t ≤ 1000) (hs : Src w p a len cap t s) :
    Calls Try.prog 27 #[.pointer (some ⟨p, 0, none⟩)] w (Next w p a len cap t) := by
  have c0 := hs.c0
  have c1 := hs.c1
  have c2 := hs.c2
  have f1 := hs.f1
  have f2 := hs.f2
  have hl := h.len
  have hl' : len ≤ 9223372036854775807 := Nat.le_trans hl (by decide)
  by_cases hlt : t < len
  · rcases h with ⟨_, rfl, _⟩ | ⟨x, rfl, h1, h2, h3, h4, h5⟩
    · omega
    · have hc := h4 t (by omega)
      have hwf := h5 (zs.getD t 0) (by
        have hi' : t < zs.length := by omega
        rw [List.getD_eq_getElem?_getD, List.getElem?_eq_getElem hi']; exact List.getElem_mem hi')
      generalize zs.getD t 0 = z at *
      obtain ⟨z0, z1⟩ : 0 ≤ z ∧ z ≤ 255 := by
        simp [Lit.wf] at hwf
        exact ⟨hwf.1, hwf.2⟩
      have ilt : (t : Int) < (len : Int) := by omega
      have ilt2 : (t : Int) + 1 ≤ (len : Int) := by omega
      have i0 : (0 : Int) ≤ (t : Int) := by omega
      have H := Lib.hid hs
      clear h4 h5 h3 hs
      go_enter Try.func27, Try.ntmps27
      go_wp2
      go_quiet (fail)
      go_wp2
      go_quiet (fail)
      go_wp2
      go_quiet (fail)
      go_wp2
      go_ret
      exact ⟨z.toNat, _, by omega, by rw [Int.toNat_of_nonneg z0]; rfl, H.out.set _ _, Src.by _ _⟩
  · have ilt : ¬ (t : Int) < (len : Int) := by omega
    have ilt2 : ¬ (t : Int) + 1 ≤ (len : Int) := by omega
    have H := Lib.hid hs
    clear hs
    go_enter Try.func27, Try.ntmps27
    go_wp2
    go_quiet (fail)
    go_wp2
    go_quiet (fail)
    go_wp2
    go_ret
    have h1 := IntKind.wrap_u64 (IntKind.u64.wrap (IntKind.u64.wrap (s * 6364136223846793005)) + 1442695040888963407)
    generalize IntKind.u64.wrap (IntKind.u64.wrap (IntKind.u64.wrap (s * 6364136223846793005)) + 1442695040888963407) = m at *
    have h2 := and255 (m / 1099511627776) (by omega) (by omega)
    refine ⟨((m / 1099511627776) % 256).toNat, m, by omega, ?_, H.out.set _ _, Src.by _ _⟩
    show Ending.returned (.int .i64 (wrap64 _)) = _
    rw [h2, Int.toNat_of_nonneg (by omega), IntWalk.wrap64_in _ (by omega)]
end Go.Proofs.Ytojbgeimlipajaa
