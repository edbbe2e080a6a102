/-
  net.Plug: the loop over both nets.
-/
import Derived.Test.YtcebejcdfdahjaaPlugE
namespace Go.Proofs.Ytcebejcdfdahjaa
open Go.RowKit
attribute [local go_sem] cell_set
set_option maxRecDepth 100000
set_option linter.unusedVariables false

/-- Stands the walk at a sequence that region n leads? (refine it with_reducible) -/
theorem at_seq {P : Program} {Q : Exit → Act → World → Prop} {a : Act} {w : World} (n : Nat) {l : Array Oper} {d : Bool} {c : Code} (h : (Code.seq (.region n l d) c).wp P Q a w) : (Code.seq (.region n l d) c).wp P Q a w := h
def dfs (Ds : List Nat) : List Deferred := Ds.map fun D => { target := .collected D, args := #[] }
def stK (pn : Int → Nat) (csA csB : List Int) (fA fB : Nat) (J : List (Int × Int)) : Nat → StT
  | 0 => (fun _ => none, 0)
  | 1 => stT J 0 false (fun _ => none, 0) (allPs pn csA fA)
  | _ => stT J (csA.length : Int) true (stT J 0 false (fun _ => none, 0) (allPs pn csA fA)) (allPs pn csB fB)
section
variable (Q : Exit → Act → World → Prop) (w : World) (VA VB UA UB : Option Addr) (ca cb da db : Nat) (csA csB : List Int) (fA fB : Nat) (WA WB : List (Pt × Pt)) (J : List (Int × Int)) (v21 : Value) (A : Option Addr) (n cap : Nat) (L : List (ByteArray × Int))
/-- The state at a round: k nets seen. X0: the world at the loop's beginning. -/
structure R21 (z : Nat) (bt mt bto mto bk bs k : Nat) (a : Act) (X : World) : Prop where
  ds : ∃ Ds : List Nat, Ds.length = k ∧ Ds.Nodup ∧ (∀ D ∈ Ds, z ≤ D ∧ X.heap[D]? = some (.deferred (some []))) ∧ FrN 234 (dfs Ds) [(0, .slice A n cap), (5, .pointer (some ⟨w.heap.size, 0, none⟩)), (6, .pointer (some ⟨w.heap.size + 1, 0, none⟩)), (8, .pointer (some ⟨w.heap.size + 2, 0, none⟩)), (12, .pointer (some ⟨bt, 0, none⟩)), (21, v21), (22, .pointer (some ⟨bto, 0, none⟩)), (23, .pointer (some ⟨bk, 0, none⟩)), (24, .slice (some ⟨bs, 0, none⟩) 2 2), (144, .slice (some ⟨bs, 0, none⟩) 2 2), (145, .int .i64 2), (146, .int .i64 (k : Int))] a
  zl : z ≤ X.heap.size
  g : GB w VA VB UA UB csA.length ca WA.length cb csB.length da WB.length db fA fB X
  t : X.heap[bt]? = some (.cells #[.map (some mt)] 115 (0, 0))
  tm : MP encS X mt (twF J)
  o : X.heap[bto]? = some (.cells #[.map (some mto)] 119 (0, 0))
  om : MP encS X mto (stK (pnL L) csA csB fA fB J k).1
  k : X.heap[bk]? = some (.cells #[.int .i64 ((stK (pnL L) csA csB fA fB J k).2 : Int)] 3 (0, 0))
  s : ∃ T fr, X.heap[bs]? = some (.cells #[.slice VA csA.length ca, .int .i64 (fA : Int), .slice VB WA.length cb, .slice UA csB.length da, .int .i64 (fB : Int), .slice UB WB.length db] T fr)
  l1 : w.heap.size + 3 ≤ mto
  l2 : w.heap.size + 3 ≤ bk
  l3 : mto ≠ bk
  l4 : mto ≠ bt ∧ bk ≠ bt ∧ mto ≠ mt ∧ bk ≠ mt ∧ mto ≠ bto ∧ bk ≠ bto ∧ mto ≠ bs ∧ bk ≠ bs ∧ mto < z ∧ bk < z
set_option maxHeartbeats 4000000 in
theorem gr_21 (z bt mt bto mto bk bs k : Nat) (a : Act) (X : World) (hn : n = L.length) (HL : Hid (AgRd w A L)) (hs : SigOk L) (hpos : 0 < L.length) (HCA : Hid (IntsRd w VA csA)) (HCB : Hid (IntsRd w UA csB)) (hcA : csA.length ≤ 5000) (hcB : csB.length ≤ 5000) (hfA : fA ≤ 100) (hfB : fB ≤ 100) (hk2 : k ≤ 2)
    (hgo : Hid (∀ a' X', k < 2 → R21 w VA VB UA UB ca cb da db csA csB fA fB WA WB J v21 A n cap L z bt mt bto mto bk bs (k + 1) a' X' → Q .normal a' X'))
    (hout : Hid (∀ a' X', k = 2 → R21 w VA VB UA UB ca cb da db csA csB fA fB WA WB J v21 A n cap L z bt mt bto mto bk bs k a' X' → Q (.exit 2) a' X'))
    (hR : R21 w VA VB UA UB ca cb da db csA csB fA fB WA WB J v21 A n cap L z bt mt bto mto bk bs k a X) : (gpT 25).wp Try.prog Q a X := by
  subst hn
  obtain ⟨⟨Ds, hDl, hDn, hDd, ha⟩, hzl, hg, ht, htm, ho, hom, hbk, ⟨T, fr, hbs⟩, l1, l2, l3, l4⟩ := hR
  have HDs := Lib.hid (And.intro hDl (And.intro hDn hDd))
  obtain ⟨U, rfl, e0, e5, e6, e8, e12, e21, e22, e23, e24, e144, e145, e146, -⟩ := ha.open
  have HG := Lib.hid hg
  have HT := Lib.hid (And.intro ht (And.intro htm (And.intro ho (And.intro hom (And.intro hbk (Exists.intro (p := fun T => ∃ fr, X.heap[bs]? = some (.cells _ T fr)) T (Exists.intro fr hbs)))))))
  have HL4 := Lib.hid l4
  have hl := hg.lt
  have hbsl := heap_lt hbs
  unfold FrGL
  simp only [e0, e5, e6, e8, e12, e21, e22, e23, e24, e144, e145, e146]
  clear e0 e5 e6 e8 e12 e21 e22 e23 e24 e144 e145 e146 ha hg ht htm ho hom hbk l4 hDl hDn hDd
  show (Code.seq _ _).wp _ _ _ _
  rcases (by omega : k = 2 ∨ k = 0 ∨ k = 1) with rfl | rfl | rfl
  · clear hbs
    have HO := Lib.hid (fun a' X' => hout.out a' X' rfl)
    repeat (first
      | exact HO.out _ _ ⟨⟨Ds, HDs.out.1, HDs.out.2.1, HDs.out.2.2, rfl, rfl, rfl, rfl, rfl, rfl, rfl, rfl, rfl, rfl, rfl, rfl, rfl, rfl, trivial⟩, hzl, HG.out, HT.out.1, HT.out.2.1, HT.out.2.2.1, HT.out.2.2.2.1, HT.out.2.2.2.2.1, HT.out.2.2.2.2.2, l1, l2, l3, HL4.out⟩
      | go_values | go_skip | go_guarded | go_step | go_upon | go_back)
  · have c0 : X.cell? ⟨bs, 0, none⟩ = some (.slice VA csA.length ca) := by simp [World.cell?, hbs]
    have c1 : X.cell? ⟨bs, 1, none⟩ = some (.int .i64 (fA : Int)) := by simp [World.cell?, hbs]
    have c2 : X.cell? ⟨bs, 2, none⟩ = some (.slice VB WA.length cb) := by simp [World.cell?, hbs]
    clear hbs
    have hX2 : Below X.heap.size X ((X.alloc (.cells #[.int .i64 0] 3)).alloc (.cells #[.slice VA csA.length ca, .int .i64 (fA : Int), .slice VB WA.length cb] 26)) := ((Below.refl X.heap.size X).alloc (Nat.le_refl _) _).alloc (by simp) _
    have hi2 : ((X.alloc (.cells #[.int .i64 0] 3)).alloc (.cells #[.slice VA csA.length ca, .int .i64 (fA : Int), .slice VB WA.length cb] 26)).heap[X.heap.size]? = some (.cells #[.int .i64 0] 3 (0, 0)) := (Below.heap_alloc _ _ _ (by simp)).trans (heap_alloc_new X _)
    have hn2 : ((X.alloc (.cells #[.int .i64 0] 3)).alloc (.cells #[.slice VA csA.length ca, .int .i64 (fA : Int), .slice VB WA.length cb] 26)).heap[X.heap.size + 1]? = some (.cells #[.slice VA csA.length ca, .int .i64 (fA : Int), .slice VB WA.length cb] 26 (0, 0)) := by
      have := heap_alloc_new (X.alloc (.cells #[.int .i64 0] 3)) (.cells #[.slice VA csA.length ca, .int .i64 (fA : Int), .slice VB WA.length cb] 26)
      rwa [World.size_alloc] at this
    have H2 := Lib.hid (And.intro hX2 (And.intro hi2 hn2))
    have hml := HT.out.2.2.2.1.lt
    have hkl := heap_lt HT.out.2.2.2.2.1
    have HMl := Lib.hid (And.intro hml hkl)
    have htl := heap_lt HT.out.1
    have hol := heap_lt HT.out.2.2.1
    have HGo := Lib.hid (fun a' X' => hgo.out a' X' (by omega))
    clear hX2 hi2 hn2 hml hkl htl hol
    have HD4 : Hid (mto ≠ bt ∧ bk ≠ bt ∧ mto ≠ mt ∧ bk ≠ mt ∧ mto ≠ bto ∧ bk ≠ bto ∧ mto ≠ X.heap.size ∧ bk ≠ X.heap.size) := by
      obtain ⟨q1, q2, q3, q4, q5, q6, _, _⟩ := HL4.out
      obtain ⟨r1, r2⟩ := HMl.out
      exact ⟨q1, q2, q3, q4, q5, q6, by omega, by omega⟩
    go_upto_region 26 with fail
    iterate 40 (first | (with_reducible refine at_seq 27 ?_) | go_values | go_skip | go_guarded | go_step | go_upon | go_back)
    rename_i K hK
    refine gp_27 _ w VA VB UA UB VA VB csA.length ca WA.length cb csB.length da WB.length db ca cb fA fB J v21 (.slice (some ⟨bs, 0, none⟩) 2 2) (.slice (some ⟨bs, 0, none⟩) 2 2) (.int .i64 2) (.int .i64 0) A _ cap L csA fA WA false 0 0 _ (dfs Ds) bt mt bto mto bk X.heap.size (X.heap.size + 1) _ _ rfl HL hs hpos HCA hcA hfA (Lib.hid (by rfl)) (Lib.hid (by simp [IntKind.wrap_i64])) ?hst (HG.out.below (H2.out.1.mono hl)) (Lib.hid ((H2.out.1.block bt (heap_lt HT.out.1)).trans HT.out.1)) (Lib.hid (HT.out.2.1.keep (H2.out.1.block mt HT.out.2.1.lt))) (Lib.hid ((H2.out.1.block bto (heap_lt HT.out.2.2.1)).trans HT.out.2.2.1)) (Lib.hid (HT.out.2.2.2.1.keep (H2.out.1.block mto HMl.out.1))) (Lib.hid ((H2.out.1.block bk HMl.out.2).trans HT.out.2.2.2.2.1)) (Lib.hid H2.out.2.1) (Lib.hid H2.out.2.2) l1 l2 l3 HD4 (Lib.hid ?hk) ⟨rfl, rfl, rfl, rfl, rfl, rfl, rfl, rfl, rfl, rfl, rfl, rfl, rfl, rfl, rfl, rfl, trivial⟩
    case hst => (show (0 : Nat) ≤ 100000; omega)
    case hk =>
      rintro a3 X3 D hf hD hkp hdd hm3 hb3
      refine hK _ _ ?_
      obtain ⟨U3, rfl, e0, e5, e6, e8, e12, e21, e22, e23, e24, e144, e145, e146, -⟩ := hf.open
      have kX : Kp [mto, bk] X X3 := (Kp.of_below H2.out.1).trans hkp (fun b hb => .inl hb)
      have hb3' : Below (w.heap.size + 3) X X3 := kX.below hl (by intro b hb; simp at hb; omega)
      obtain ⟨q1, q2, q3, q4, q5, q6, q7, q8, q9, qA⟩ := HL4.out
      have HR : Hid (GB w VA VB UA UB csA.length ca WA.length cb csB.length da WB.length db fA fB X3 ∧ X3.heap[bt]? = some (.cells #[.map (some mt)] 115 (0, 0)) ∧ MP encS X3 mt (twF J) ∧ X3.heap[bto]? = some (.cells #[.map (some mto)] 119 (0, 0)) ∧ (∃ T fr, X3.heap[bs]? = some (.cells #[.slice VA csA.length ca, .int .i64 (fA : Int), .slice VB WA.length cb, .slice UA csB.length da, .int .i64 (fB : Int), .slice UB WB.length db] T fr)) ∧ z ≤ X3.heap.size ∧ z ≤ D ∧ ∀ D' ∈ Ds, z ≤ D' ∧ X3.heap[D']? = some (.deferred (some [])) ∧ D' < D) := by
        obtain ⟨T, fr, hbs⟩ := HT.out.2.2.2.2.2
        have hs3 := kX.size
        have hD' : X.heap.size ≤ D := Nat.le_trans H2.out.1.size hD
        refine ⟨HG.out.below hb3', (kX.block bt (heap_lt HT.out.1) (by simp [Ne.symm q1, Ne.symm q2])).trans HT.out.1, HT.out.2.1.keep (kX.block mt HT.out.2.1.lt (by simp [Ne.symm q3, Ne.symm q4])), (kX.block bto (heap_lt HT.out.2.2.1) (by simp [Ne.symm q5, Ne.symm q6])).trans HT.out.2.2.1, ⟨T, fr, (kX.block bs (heap_lt hbs) (by simp [Ne.symm q7, Ne.symm q8])).trans hbs⟩, by omega, by omega, fun D' hD2 => ?_⟩
        obtain ⟨h1, h2⟩ := HDs.out.2.2 D' hD2
        have h3 := heap_lt h2
        exact ⟨h1, (kX.block D' h3 (by simp; omega)).trans h2, by omega⟩
      have HF := Lib.hid (And.intro hdd (And.intro hm3 hb3))
      clear kX hb3' q1 q2 q3 q4 q5 q6 q7 q8 q9 qA hf hD hkp hdd hm3 hb3
      unfold FrGL
      simp only [e0, e5, e6, e8, e12, e21, e22, e23, e24, e144, e145, e146]
      clear e0 e5 e6 e8 e12 e21 e22 e23 e24 e144 e145 e146 hK
      go_wp2_with fail
      refine HGo.out _ _ ⟨⟨D :: Ds, by simp [HDs.out.1], List.nodup_cons.2 ⟨fun hm => ?_, HDs.out.2.1⟩, fun D' hD2 => ?_, rfl, rfl, rfl, rfl, rfl, rfl, rfl, rfl, rfl, rfl, rfl, rfl, rfl, rfl, trivial⟩, HR.out.2.2.2.2.2.1, HR.out.1, HR.out.2.1, HR.out.2.2.1, HR.out.2.2.2.1, HF.out.2.1, HF.out.2.2, HR.out.2.2.2.2.1, l1, l2, l3, HL4.out⟩
      · have := (HR.out.2.2.2.2.2.2.2 D hm).2.2
        omega
      · rcases List.mem_cons.1 hD2 with rfl | hD2
        · exact ⟨HR.out.2.2.2.2.2.2.1, HF.out.1⟩
        · have := HR.out.2.2.2.2.2.2.2 D' hD2
          exact ⟨this.1, this.2.1⟩
  · have c0 : X.cell? ⟨bs, 3, none⟩ = some (.slice UA csB.length da) := by simp [World.cell?, hbs]
    have c1 : X.cell? ⟨bs, 4, none⟩ = some (.int .i64 (fB : Int)) := by simp [World.cell?, hbs]
    have c2 : X.cell? ⟨bs, 5, none⟩ = some (.slice UB WB.length db) := by simp [World.cell?, hbs]
    clear hbs
    have hX2 : Below X.heap.size X ((X.alloc (.cells #[.int .i64 1] 3)).alloc (.cells #[.slice UA csB.length da, .int .i64 (fB : Int), .slice UB WB.length db] 26)) := ((Below.refl X.heap.size X).alloc (Nat.le_refl _) _).alloc (by simp) _
    have hi2 : ((X.alloc (.cells #[.int .i64 1] 3)).alloc (.cells #[.slice UA csB.length da, .int .i64 (fB : Int), .slice UB WB.length db] 26)).heap[X.heap.size]? = some (.cells #[.int .i64 1] 3 (0, 0)) := (Below.heap_alloc _ _ _ (by simp)).trans (heap_alloc_new X _)
    have hn2 : ((X.alloc (.cells #[.int .i64 1] 3)).alloc (.cells #[.slice UA csB.length da, .int .i64 (fB : Int), .slice UB WB.length db] 26)).heap[X.heap.size + 1]? = some (.cells #[.slice UA csB.length da, .int .i64 (fB : Int), .slice UB WB.length db] 26 (0, 0)) := by
      have := heap_alloc_new (X.alloc (.cells #[.int .i64 1] 3)) (.cells #[.slice UA csB.length da, .int .i64 (fB : Int), .slice UB WB.length db] 26)
      rwa [World.size_alloc] at this
    have H2 := Lib.hid (And.intro hX2 (And.intro hi2 hn2))
    have hml := HT.out.2.2.2.1.lt
    have hkl := heap_lt HT.out.2.2.2.2.1
    have HMl := Lib.hid (And.intro hml hkl)
    have htl := heap_lt HT.out.1
    have hol := heap_lt HT.out.2.2.1
    have HGo := Lib.hid (fun a' X' => hgo.out a' X' (by omega))
    clear hX2 hi2 hn2 hml hkl htl hol
    have HD4 : Hid (mto ≠ bt ∧ bk ≠ bt ∧ mto ≠ mt ∧ bk ≠ mt ∧ mto ≠ bto ∧ bk ≠ bto ∧ mto ≠ X.heap.size ∧ bk ≠ X.heap.size) := by
      obtain ⟨q1, q2, q3, q4, q5, q6, _, _⟩ := HL4.out
      obtain ⟨r1, r2⟩ := HMl.out
      exact ⟨q1, q2, q3, q4, q5, q6, by omega, by omega⟩
    go_upto_region 26 with fail
    iterate 40 (first | (with_reducible refine at_seq 27 ?_) | go_values | go_skip | go_guarded | go_step | go_upon | go_back)
    rename_i K hK
    refine gp_27 _ w VA VB UA UB UA UB csA.length ca WA.length cb csB.length da WB.length db da db fA fB J v21 (.slice (some ⟨bs, 0, none⟩) 2 2) (.slice (some ⟨bs, 0, none⟩) 2 2) (.int .i64 2) (.int .i64 1) A _ cap L csB fB WB true 1 (csA.length : Int) _ (dfs Ds) bt mt bto mto bk X.heap.size (X.heap.size + 1) _ _ rfl HL hs hpos HCB hcB hfB (Lib.hid (by rfl)) (Lib.hid (by rw [Int.one_mul]; exact IntWalk.i64_in _ (by omega))) ?hst (HG.out.below (H2.out.1.mono hl)) (Lib.hid ((H2.out.1.block bt (heap_lt HT.out.1)).trans HT.out.1)) (Lib.hid (HT.out.2.1.keep (H2.out.1.block mt HT.out.2.1.lt))) (Lib.hid ((H2.out.1.block bto (heap_lt HT.out.2.2.1)).trans HT.out.2.2.1)) (Lib.hid (HT.out.2.2.2.1.keep (H2.out.1.block mto HMl.out.1))) (Lib.hid ((H2.out.1.block bk HMl.out.2).trans HT.out.2.2.2.2.1)) (Lib.hid H2.out.2.1) (Lib.hid H2.out.2.2) l1 l2 l3 HD4 (Lib.hid ?hk) ⟨rfl, rfl, rfl, rfl, rfl, rfl, rfl, rfl, rfl, rfl, rfl, rfl, rfl, rfl, rfl, rfl, trivial⟩
    case hst => (have h1 := stT_le J 0 false ((fun _ => none, 0) : StT) (allPs (pnL L) csA fA); have h2 := firstN_le (pnL_le hs) csA fA csA.length; rw [allPs_len] at h1; show (stT J 0 false ((fun _ => none, 0) : StT) (allPs (pnL L) csA fA)).2 ≤ 100000; simp only [Nat.zero_add] at h1; omega)
    case hk =>
      rintro a3 X3 D hf hD hkp hdd hm3 hb3
      refine hK _ _ ?_
      obtain ⟨U3, rfl, e0, e5, e6, e8, e12, e21, e22, e23, e24, e144, e145, e146, -⟩ := hf.open
      have kX : Kp [mto, bk] X X3 := (Kp.of_below H2.out.1).trans hkp (fun b hb => .inl hb)
      have hb3' : Below (w.heap.size + 3) X X3 := kX.below hl (by intro b hb; simp at hb; omega)
      obtain ⟨q1, q2, q3, q4, q5, q6, q7, q8, q9, qA⟩ := HL4.out
      have HR : Hid (GB w VA VB UA UB csA.length ca WA.length cb csB.length da WB.length db fA fB X3 ∧ X3.heap[bt]? = some (.cells #[.map (some mt)] 115 (0, 0)) ∧ MP encS X3 mt (twF J) ∧ X3.heap[bto]? = some (.cells #[.map (some mto)] 119 (0, 0)) ∧ (∃ T fr, X3.heap[bs]? = some (.cells #[.slice VA csA.length ca, .int .i64 (fA : Int), .slice VB WA.length cb, .slice UA csB.length da, .int .i64 (fB : Int), .slice UB WB.length db] T fr)) ∧ z ≤ X3.heap.size ∧ z ≤ D ∧ ∀ D' ∈ Ds, z ≤ D' ∧ X3.heap[D']? = some (.deferred (some [])) ∧ D' < D) := by
        obtain ⟨T, fr, hbs⟩ := HT.out.2.2.2.2.2
        have hs3 := kX.size
        have hD' : X.heap.size ≤ D := Nat.le_trans H2.out.1.size hD
        refine ⟨HG.out.below hb3', (kX.block bt (heap_lt HT.out.1) (by simp [Ne.symm q1, Ne.symm q2])).trans HT.out.1, HT.out.2.1.keep (kX.block mt HT.out.2.1.lt (by simp [Ne.symm q3, Ne.symm q4])), (kX.block bto (heap_lt HT.out.2.2.1) (by simp [Ne.symm q5, Ne.symm q6])).trans HT.out.2.2.1, ⟨T, fr, (kX.block bs (heap_lt hbs) (by simp [Ne.symm q7, Ne.symm q8])).trans hbs⟩, by omega, by omega, fun D' hD2 => ?_⟩
        obtain ⟨h1, h2⟩ := HDs.out.2.2 D' hD2
        have h3 := heap_lt h2
        exact ⟨h1, (kX.block D' h3 (by simp; omega)).trans h2, by omega⟩
      have HF := Lib.hid (And.intro hdd (And.intro hm3 hb3))
      clear kX hb3' q1 q2 q3 q4 q5 q6 q7 q8 q9 qA hf hD hkp hdd hm3 hb3
      unfold FrGL
      simp only [e0, e5, e6, e8, e12, e21, e22, e23, e24, e144, e145, e146]
      clear e0 e5 e6 e8 e12 e21 e22 e23 e24 e144 e145 e146 hK
      go_wp2_with fail
      refine HGo.out _ _ ⟨⟨D :: Ds, by simp [HDs.out.1], List.nodup_cons.2 ⟨fun hm => ?_, HDs.out.2.1⟩, fun D' hD2 => ?_, rfl, rfl, rfl, rfl, rfl, rfl, rfl, rfl, rfl, rfl, rfl, rfl, rfl, rfl, trivial⟩, HR.out.2.2.2.2.2.1, HR.out.1, HR.out.2.1, HR.out.2.2.1, HR.out.2.2.2.1, HF.out.2.1, HF.out.2.2, HR.out.2.2.2.2.1, l1, l2, l3, HL4.out⟩
      · have := (HR.out.2.2.2.2.2.2.2 D hm).2.2
        omega
      · rcases List.mem_cons.1 hD2 with rfl | hD2
        · exact ⟨HR.out.2.2.2.2.2.2.1, HF.out.1⟩
        · have := HR.out.2.2.2.2.2.2.2 D' hD2
          exact ⟨this.1, this.2.1⟩
end
end Go.Proofs.Ytcebejcdfdahjaa
