/- Walks: longsOf, IsPath. -/
import Derived.Laws.AppendOwn
import Derived.Maps.AppendAt
import Derived.Deep.AppendLies
import Derived.Deep.RegionLaw
import Derived.Test.YtojbgeimlipajaaW5
namespace Go.Proofs.Ytojbgeimlipajaa
open Go.RowKit Fl

theorem info28 : (Try.prog.info? 28).map (fun i => (i.zero, i.size, i.bytes)) = some (some (.float .f32 0), 1, 4) := by kernel_rfl
def row (lw : Nat → Nat) (k : Nat) : List Value := (List.range k).map (fun j => Value.float .f32 (lw j))
theorem row_succ (lw : Nat → Nat) (k : Nat) : row lw (k + 1) = row lw k ++ [.float .f32 (lw k)] := by simp [row, List.range_succ]
theorem row_get (lw : Nat → Nat) (n k : Nat) (h : k < n) : (row lw n)[k]? = some (.float .f32 (lw k)) := by simp [row, h]

-- longsOf (32)
theorem longs_any (b off n cap : Nat) (a : Nat → Pt) (w : World) (hn : 2 ≤ n) (hm : n ≤ 1000)
    (hc : ∀ k, k < n → w.cell? ⟨b, off + k, none⟩ = some (cx (a k))) (hb : b < w.heap.size)
    (hs : ∀ k, k + 1 < n → floatBits .sub .f32 (a (k + 1)).1 (a k).1 = some (fsub (a (k + 1)).1 (a k).1) ∧ floatBits .sub .f32 (a (k + 1)).2 (a k).2 = some (fsub (a (k + 1)).2 (a k).2) ∧ LongOk (subP (a (k + 1)) (a k))) :
    Calls Try.prog 32 #[.slice (some ⟨b, off, none⟩) n cap] w fun e w' => ∃ g c, e = .returned (.slice (some ⟨g, 0, none⟩) (n - 1) c) ∧ Below w.heap.size w w' ∧ (∀ k, k < n - 1 → w'.cell? ⟨g, 0 + k, none⟩ = some (.float .f32 (longW (subP (a (k + 1)) (a k))))) := by
  obtain ⟨lw, hlw⟩ : ∃ lw : Nat → Nat, ∀ k, lw k = longW (subP (a (k + 1)) (a k)) := ⟨_, fun _ => rfl⟩
  obtain ⟨i0, hi, hz0, hz1, hz2⟩ := info_parts info28
  have n0 : (2 : Int) ≤ (n : Int) := by omega
  go_enter Try.func32, Try.ntmps32
  go_wp2
  go_loopw [3, 4] (fun v3 v4 wr => ∃ k : Nat, k + 1 ≤ n ∧ v4 = .int .i64 ((k : Int) + 1) ∧ wr.ownsRow w.heap.size 28 1 v3 k (row lw k) ∧ v3 ≠ .slice none 0 0 ∧ Below w.heap.size w wr) (fun _ v4 _ => n - (intOf v4).toNat)
  case atStart => exact ⟨0, by omega, rfl, ⟨rfl, .inr ⟨w.heap.size, 0, #[], rfl, Nat.le_refl _, World.alloc_heap_new _ _, by omega, by decide, rfl, rfl⟩⟩, by simp, (Below.refl _ w).alloc (Nat.le_refl _) _⟩
  case round =>
    obtain ⟨k, hkn, rfl, hown, hnn, hB⟩ := hrel
    by_cases hlt : k + 1 < n
    · obtain ⟨s1, s2, lk⟩ := hs k hlt
      have M := minus_any _ _ s1 s2
      have L := longOf_any _ lk
      rw [← hlw] at L
      have c0 : wr.cell? ⟨b, off + k, none⟩ = some (cx (a k)) := (hB.cell (p := ⟨b, off + k, none⟩) hb).trans (hc k (by omega))
      have c1 : wr.cell? ⟨b, off + (k + 1), none⟩ = some (cx (a (k + 1))) := (hB.cell (p := ⟨b, off + (k + 1), none⟩) hb).trans (hc (k + 1) (by omega))
      unfold cx at c0 c1 M L
      have k0 : (0 : Int) ≤ (k : Int) := by omega
      have k1 : (k : Int) + 1 < (n : Int) := by omega
      have k10 : (0 : Int) ≤ (k : Int) + 1 := by omega
      have tn : ((k : Int) + 1).toNat = k + 1 := by omega
      have kn : (k : Int) < (n : Int) := by omega
      have wk : IntKind.i64.wrap (k : Int) = (k : Int) := by rw [IntKind.wrap_i64]; omega
      have hlwH := Lib.hid hlw
      clear hs hc s1 s2 lk hlw
      go_wp2
      go_region_law (first
        | (refine step_append_lies _ rfl (.tmp 12) (.tmp 24) 34 rfl w.heap.size 28 i0 (.float .f32 0) 1 4 Try.underlying34 hi hz0 hz1 hz2 rfl (by decide) u3 k (row lw k) (by simp [Act.eval, Act.put]) (World.ownsRow.alloc (w := wr.drew) hown _) ⟨wr.heap.size, 0, none⟩ 1 1 [.float .f32 (lw k)] (by simp [Act.eval, Act.put]) rfl (cell_one_new wr.drew _ _) (fun u hu => by simp at hu; subst hu; rfl) (by omega) (by unfold maxLen; omega) (by omega) (by have := hB.size; simp; omega) _ rfl ?_; intro g cap' w2 hown' hgrow hat hlt')
        | (go_simp; go_at_call 20; refine (M _).mono ?_; rintro e w' ⟨rfl, rfl⟩)
        | (go_simp; go_at_call 19; refine (L _).mono ?_; rintro e w' ⟨rfl, rfl⟩))
      all_goals go_wp2
      all_goals exact ⟨⟨k + 1, by omega, by go_num, by rw [row_succ]; exact hown', by simp, (hB.drew.alloc hB.size _).grown hgrow (by have := hB.size; simp; omega) (fun j e => (hown.lt j e).1)⟩, by simp [intOf]; omega⟩
    · obtain rfl : n = k + 1 := by omega
      have hcells := fun g => hown.cells (g := g)
      rcases hown.2 with ⟨h, _⟩ | ⟨g, c, cur, rfl, hgH, hgh, hcap, hcapm, _, _⟩
      · exact absurd h hnn
      have hlc : ∀ j, j < k → wr.cell? ⟨g, 0 + j, none⟩ = some (.float .f32 (lw j)) := fun j hj => by
        have := hcells g rfl j _ (row_get lw k j hj)
        rw [Nat.zero_add]
        have e : (⟨g, 0, none⟩ : Addr).add j = ⟨g, j, none⟩ := by by_cases h0 : j = 0 <;> simp [Addr.add, h0]
        rw [← e]; exact this
      have hlwH := Lib.hid hlw
      have hF := Lib.hid (And.intro hB hlc)
      clear hlw hlc hcells hs hc hB
      have k1 : ¬ (k : Int) + 1 < ((k + 1 : Nat) : Int) := by omega
      go_wp2
      go_ret
      refine ⟨g, ⟨c, rfl⟩, hF.out.1, fun j hj => ?_⟩
      have := hF.out.2 j hj
      rw [Nat.zero_add, hlwH.out] at this
      exact this
end Go.Proofs.Ytojbgeimlipajaa
