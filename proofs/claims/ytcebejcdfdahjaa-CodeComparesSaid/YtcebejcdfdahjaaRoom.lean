/-
  How long an argument may be.
-/
import Derived.Test.YtcebejcdfdahjaaOpens
import Derived.SizedLaws
namespace Go.Proofs.Ytcebejcdfdahjaa
open Go.RowKit Go.WideShapes Go.ChangeShapes Go.Deep Go.Joins
set_option maxRecDepth 100000

theorem ints_room {H : Type} {enc : TypeId × Value → H} {W : World} {ts : List TypeId} {ds : List (DataW H)} (hsz : (DataW.weightsEach Try.prog ts ds).all (· ≤ reachBytes) = true) {j : Nat} {A : Option Addr} {n cap : Nat} {d : DataW H} {p : List MemPlace}
    (ht : ts[j]? = some 23) (hd : ds[j]? = some d) (h : DataW.Trod enc Try.prog W 0 (fun _ => true) true 23 (.slice A n cap) d p) : n ≤ 1000000000000000000 := by
  obtain ⟨fuel, hf⟩ := h
  rcases open_slice Try.underlying23 (show DataW.trod enc Try.prog W 0 (fun _ => true) true fuel 23 [.slice A n cap] = some (d, p) by simpa [Value.cells] using hf) with ⟨hc, _⟩ | ⟨a, len, cap', m, k', D, Pl, hc, _, hl, hcm, hm, hx, _⟩
  · simp at hc
    omega
  · simp at hc
    obtain ⟨_, rfl, rfl⟩ := hc
    simp only [Prod.mk.injEq] at hx
    obtain ⟨rfl, _⟩ := hx
    have hb := sized_slice hsz ht hd Try.underlying23
    have h8 : Try.prog.bytesOf 3 = 8 := by kernel_rfl
    have hr : reachBytes = 140737488351232 := rfl
    rw [h8, hr] at hb
    simp only [List.length_map, List.length_range] at hb
    omega
end Go.Proofs.Ytcebejcdfdahjaa
