/-
  PROVED: 'Rows.CodeSameSaid': the law skeinlaw12.CodeSame returns true, for every input that the row speaks of; no further condition.
-/
import Derived.Test.YtcebejcdfdahjaaOpens
import Derived.SizedLaws
import Derived.Test.YtcebejcdfdahjaaRows
import Derived.WalkKit
import Derived.ProofKit
import Derived.OpenShut
import Derived.Lib.SmallJoins
import Derived.Test.YtcebejcdfdahjaaSameW
/-
  How long the lists of a net that is handed in may be.
-/
/-
  How long an argument may be.
-/
namespace Go.Proofs.Ytcebejcdfdahjaa
open Go.RowKit Go.WideShapes Go.ChangeShapes Go.Deep Go.Joins
set_option maxRecDepth 100000

theorem ints_room {H : Type} {enc : TypeId × Value → H} {W : World} {ts : List TypeId} {ds : List (DataW H)} (hsz : (DataW.weightsEach Try.prog ts ds).all (· ≤ reachBytes) = true) {j : Nat} {A : Option Addr} {n cap : Nat} {d : DataW H} {p : List MemPlace}
    (ht : ts[j]? = some 23) (hd : ds[j]? = some d) (h : DataW.Trod enc Try.prog W 0 (fun _ => true) true 23 (.slice A n cap) d p) : n ≤ 1000000000000000000 := by
  obtain ⟨fuel, hf⟩ := h
  rcases open_slice Try.underlying23 (show DataW.trod enc Try.prog W 0 (fun _ => true) true fuel 23 [.slice A n cap] = some (d, p) by simpa [Value.cells] using hf) with ⟨hc, _⟩ | ⟨a, len, cap', m, k', D, Pl, hc, _, hl, hcm, hm, hx, _⟩
  · simp at hc
    omega
  · simp at hc
    obtain ⟨_, rfl, rfl⟩ := hc
    simp only [Prod.mk.injEq] at hx
    obtain ⟨rfl, _⟩ := hx
    have hb := sized_slice hsz ht hd Try.underlying23
    have h8 : Try.prog.bytesOf 3 = 8 := by kernel_rfl
    have hr : reachBytes = 140737488351232 := rfl
    rw [h8, hr] at hb
    simp only [List.length_map, List.length_range] at hb
    omega
end Go.Proofs.Ytcebejcdfdahjaa
namespace Go.Proofs.Ytcebejcdfdahjaa
open Go.RowKit Go.WideShapes Go.ChangeShapes Go.Deep Go.Joins
set_option maxRecDepth 100000
set_option linter.unusedVariables false

section
variable {H : Type} {enc : TypeId × Value → H} {W : World} {ts : List TypeId} {ds : List (DataW H)}
theorem slice_room {T E : TypeId} {B : Nat} (hT : Try.prog.underlying T = some (.slice E)) (hB : Try.prog.bytesOf E = B) (h1 : 8 ≤ B) (hsz : (DataW.weightsEach Try.prog ts ds).all (· ≤ reachBytes) = true) {j : Nat} {A : Option Addr} {n cap : Nat} {d : DataW H} {p : List MemPlace}
    (ht : ts[j]? = some T) (hd : ds[j]? = some d) (h : DataW.Trod enc Try.prog W 0 (fun _ => true) true T (.slice A n cap) d p) : n ≤ 1000000000000000000 := by
  obtain ⟨fuel, hf⟩ := h
  rcases open_slice hT (show DataW.trod enc Try.prog W 0 (fun _ => true) true fuel T [.slice A n cap] = some (d, p) by simpa [Value.cells] using hf) with ⟨hc, _⟩ | ⟨a, len, cap', m, k', D, Pl, hc, _, hl, hcm, hm, hx, _⟩
  · simp at hc
    omega
  · simp at hc
    obtain ⟨_, rfl, rfl⟩ := hc
    simp only [Prod.mk.injEq] at hx
    obtain ⟨rfl, _⟩ := hx
    have hb := sized_slice hsz ht hd hT
    have hr : reachBytes = 140737488351232 := rfl
    rw [hB, hr] at hb
    simp only [List.length_map, List.length_range] at hb
    have h5 : n ≤ (n + (m - n)) * B := Nat.le_trans (Nat.le_add_right n (m - n)) (Nat.le_mul_of_pos_right _ (show 0 < B by omega))
    exact Nat.le_trans (Nat.le_trans h5 hb) (by decide)
theorem net_room (hsz : (DataW.weightsEach Try.prog ts ds).all (· ≤ reachBytes) = true) {j : Nat} {VA VB : Option Addr} {ca cb : Nat} {cells : List Int} {free : Int} {Wr : List (Pt × Pt)} {d : DataW H} {p : List MemPlace} {r : Reach} {b0 : Nat}
    (ht : ts[j]? = some 26) (hd : ds[j]? = some d) (hv : Value.okWide Try.prog W r b0 26 (netV VA ca cells free VB cb Wr)) (h : DataW.Trod enc Try.prog W 0 (fun _ => true) true 26 (netV VA ca cells free VB cb Wr) d p) :
    cells.length ≤ 1000000000000000000 ∧ Wr.length ≤ 1000000000000000000 := by
  obtain ⟨v0, v1, v2, y0, y1, y2, n, hve, rfl, _, h0, h1, h2⟩ := open_agg3 Try.underlying26 (by kernel_rfl) (by kernel_rfl) hv h
  simp [netV] at hve
  obtain ⟨rfl, rfl, rfl⟩ := hve
  have hw : (DataW.weightsEach Try.prog [23, 3, 24] [y0.1, y1.1, y2.1]).all (· ≤ reachBytes) = true := by
    refine List.all_eq_true.2 fun x hx => List.all_eq_true.1 hsz x (DataW.weights_mem_each ht hd x ?_)
    simpa [DataW.weights, Try.underlying26] using hx
  exact ⟨slice_room (B := 8) (j := 0) Try.underlying23 (by kernel_rfl) (by omega) hw rfl rfl ⟨n, by simpa [Value.cells] using h0⟩,
    slice_room (B := 32) (j := 2) Try.underlying24 (by kernel_rfl) (by omega) hw rfl rfl ⟨n, by simpa [Value.cells] using h2⟩⟩
end
end Go.Proofs.Ytcebejcdfdahjaa
namespace Go.Proofs.Ytcebejcdfdahjaa.codeSame
open Go.ChangeShapes Go.WideShapes Go.ChangeAt Go.RowKit Go.Joins
set_option linter.unusedVariables false
set_option maxRecDepth 100000

theorem own : ownKnob Try.prog.godebug = none := by kernel_rfl
theorem laid : laidOutB Try.prog = true := by kernel_rfl
theorem rec_agents : Try.prog.readableRec 22 = true ∧ 22 < Try.prog.types.size := ⟨by kernel_rfl, of_decide_eq_true (by kernel_rfl)⟩
theorem rec_net : Try.prog.readableRec 26 = true ∧ 26 < Try.prog.types.size := ⟨by kernel_rfl, of_decide_eq_true (by kernel_rfl)⟩
theorem rec_u8 : Try.prog.readableRec 5 = true ∧ 5 < Try.prog.types.size := ⟨by kernel_rfl, of_decide_eq_true (by kernel_rfl)⟩
set_option maxRecDepth 100000 in
theorem lifted (os : Os) (started : os.Started) (H : Type) (enc : TypeId × Value → H) :
    ReturnsInHanded {} Try.checked os 7 .any (Rows.codeSameSpec.pre6 enc Try.prog Try.f7 Rows.codeSameRow.domain false) (Rows.codeSameSpec.post enc Try.prog Try.f7 false true false false) := by
  refine returnsInHanded_of_change_sized (C := Try.checked) own started (by kernel_rfl) Try.func7
    (ChangeSpec.witness6 (enc := enc) (C := Try.checked) false ⟨#[], #[.slice none 0 0, .agg #[.slice none 0 0, .int .i64 0, .slice none 0 0], .agg #[.slice none 0 0, .int .i64 0, .slice none 0 0], .int .u8 0, .int .u8 0], []⟩ 8 (by kernel_rfl) (by kernel_rfl) (by kernel_rfl) (by kernel_rfl)) ?_
  intro W base args ds gs before hval0 hW hcnd hsz _
  have hval : ∀ (j : Nat) t v, Try.f7.params[j]? = some t → args[j]? = some v → Value.okWide Try.prog W .any base t v := hval0
  have hW' := hW
  obtain ⟨p, q, hA0, hV, rfl, hfz, hnd⟩ := hW
  have hA : DataW.TrodAll enc Try.prog W 0 (fun _ => true) true Try.f7.params.toList args.toList ds p := hA0
  rw [Try.params7] at hA hval
  have hA2 := hA
  obtain ⟨v0, vs0, d0, ds0, p0, q0, hargs, rfl, rfl, h0, r0⟩ := trodAll_cons hA
  obtain ⟨v1, vs1, d1, ds1, p1, q1, rfl, rfl, rfl, h1, r1⟩ := trodAll_cons r0
  obtain ⟨v2, vs2, d2, ds2, p2, q2, rfl, rfl, rfl, h2, r2⟩ := trodAll_cons r1
  obtain ⟨v3, vs3, d3, ds3, p3, q3, rfl, rfl, rfl, h3, r3⟩ := trodAll_cons r2
  obtain ⟨v4, vs4, d4, ds4, p4, q4, rfl, rfl, rfl, h4, r4⟩ := trodAll_cons r3
  obtain ⟨rfl, rfl, rfl⟩ := trodAll_nil r4
  obtain rfl : args = #[v0, v1, v2, v3, v4] := by cases args; simp_all
  obtain ⟨rfl, rfl⟩ := trodVars_none hV
  obtain ⟨A0, L0, cap0, rfl, a01, a02, a03⟩ := open_agents (hval 0 22 v0 rfl rfl) h0
  obtain ⟨VA1, VB1, ca1, cb1, cells1, free1, W1, rfl, b11, b12, b13, b14⟩ := open_net (hval 1 26 v1 rfl rfl) h1
  obtain ⟨VA2, VB2, ca2, cb2, cells2, free2, W2, rfl, b21, b22, b23, b24⟩ := open_net (hval 2 26 v2 rfl rfl) h2
  obtain ⟨m3, rfl, rfl, rfl, hm3⟩ := open_int Try.underlying5 (hval 3 5 v3 rfl rfl) h3
  obtain ⟨m4, rfl, rfl, rfl, hm4⟩ := open_int Try.underlying5 (hval 4 5 v4 rfl rfl) h4
  rw [Try.params7] at hsz
  have z1 := net_room hsz (j := 1) rfl rfl (hval 1 26 _ rfl rfl) h1
  have z2 := net_room hsz (j := 2) rfl rfl (hval 2 26 _ rfl rfl) h2
  clear hA0 hval0
  simp only [List.append_nil] at hW' hA2
  have hold : ∀ x ∈ p0 ++ (p1 ++ p2), x.block < W.heap.size := fun x hx => hW'.lt x hx
  have hwalk := same_walk A0 cap0 L0 VA1 VB1 VA2 VB2 ca1 cb1 ca2 cb2 cells1 cells2 free1 free2 W1 W2 W m3 m4 a01 (by omega) (Lib.hid a03) (Lib.hid b13) (Lib.hid b14) (Lib.hid b23) (Lib.hid b24) z1.1 z2.1 z1.2 z2.2 (bounds_u8 hm3).1 (bounds_u8 hm3).2 (bounds_u8 hm4).1 (bounds_u8 hm4).2
  refine hwalk.mono fun e W' ⟨he, hg⟩ => ?_
  subst he
  exact ⟨_, rfl, post_below (pa := p0 ++ (p1 ++ p2)) (pv := []) hW' hg (fun _ _ _ => (trodAll_cons_mk (shut_bool Try.underlying4 _) trodAll_mk0))
    (fun sp hs => trodAll_stays laid (fun t ht => by
      simp only [Try.params7, List.mem_cons, List.not_mem_nil, or_false] at ht
      rcases ht with rfl | rfl | rfl | rfl | rfl
      · exact rec_agents
      · exact rec_net
      · exact rec_net
      · exact rec_u8
      · exact rec_u8) hA2 (fun x hx => hg.same (hold x hx)) hs) (fun _ _ => rfl) (by simp)
    (ok_one (by kernel_rfl) rfl (okWide_bool_mk Try.underlying4 _))⟩

theorem over : Rows.codeSameRow.holds Try.pinned (OpenSpec.ofChange Rows.codeSameSpec) :=
  OpenClaim.holds_of_wide 7 Try.f7 rfl rfl rfl rfl rfl rfl rfl ⟨rfl, rfl, rfl, rfl, rfl⟩ rfl rfl rfl rfl rfl (by kernel_rfl) Try.func7 (by kernel_rfl)
    (of_decide_eq_true (by kernel_rfl)) (by unfold Func.isWrapper; first | (rw [if_pos (by decide +kernel)]; kernel_rfl) | (rw [if_neg (by decide +kernel)]; exact ⟨rfl, rfl⟩))
    (fun os started H enc _ => lifted os started H enc)

/-- THE STATEMENT. -/
theorem proved : Rows.CodeSameSaid :=
  over
#print axioms proved
end Go.Proofs.Ytcebejcdfdahjaa.codeSame
