/-
  net.Plug's closure: what a side is linked to.
-/
import Derived.Test.YtcebejcdfdahjaaPlugF
import Derived.Test.YtcebejcdfdahjaaNetLinks
/-
  net.Plug: the loop over both nets, from its beginning.
-/
namespace Go.Proofs.Ytcebejcdfdahjaa
open Go.RowKit
attribute [local go_sem] cell_set
set_option maxRecDepth 100000
set_option linter.unusedVariables false

theorem four_new (X : World) (o1 o2 o3 o4 : Obj) : Below X.heap.size X ((((X.alloc o1).alloc o2).alloc o3).alloc o4) ∧ X.heap.size + 4 ≤ ((((X.alloc o1).alloc o2).alloc o3).alloc o4).heap.size ∧ ((((X.alloc o1).alloc o2).alloc o3).alloc o4).heap[X.heap.size]? = some o1 ∧ ((((X.alloc o1).alloc o2).alloc o3).alloc o4).heap[X.heap.size + 1]? = some o2 ∧ ((((X.alloc o1).alloc o2).alloc o3).alloc o4).heap[X.heap.size + 2]? = some o3 ∧ ((((X.alloc o1).alloc o2).alloc o3).alloc o4).heap[X.heap.size + 3]? = some o4 := by
  refine ⟨((((Below.refl X.heap.size X).alloc (Nat.le_refl _) _).alloc (by simp) _).alloc (by simp <;> omega) _).alloc (by simp <;> omega) _, by simp, ?_, ?_, ?_, ?_⟩
  · exact (Below.heap_alloc _ _ _ (by simp <;> omega)).trans ((Below.heap_alloc _ _ _ (by simp <;> omega)).trans ((Below.heap_alloc _ _ _ (by simp)).trans (heap_alloc_new X o1)))
  · have := heap_alloc_new (X.alloc o1) o2
    rw [World.size_alloc] at this
    exact (Below.heap_alloc _ _ _ (by simp <;> omega)).trans ((Below.heap_alloc _ _ _ (by simp)).trans this)
  · have := heap_alloc_new ((X.alloc o1).alloc o2) o3
    rw [World.size_alloc, World.size_alloc] at this
    exact (Below.heap_alloc _ _ _ (by simp)).trans this
  · have := heap_alloc_new (((X.alloc o1).alloc o2).alloc o3) o4
    rw [World.size_alloc, World.size_alloc, World.size_alloc] at this
    exact this
section
variable (Q : Exit → Act → World → Prop) (w : World) (VA VB UA UB : Option Addr) (ca cb da db : Nat) (csA csB : List Int) (fA fB : Nat) (WA WB : List (Pt × Pt)) (J : List (Int × Int)) (v21 : Value) (A : Option Addr) (n cap : Nat) (L : List (ByteArray × Int))
set_option maxHeartbeats 4000000 in
theorem gp_21 (bt mt : Nat) (a : Act) (X : World) (hn : n = L.length) (HL : Hid (AgRd w A L)) (hs : SigOk L) (hpos : 0 < L.length) (HCA : Hid (IntsRd w VA csA)) (HCB : Hid (IntsRd w UA csB)) (hcA : csA.length ≤ 5000) (hcB : csB.length ≤ 5000) (hfA : fA ≤ 100) (hfB : fB ≤ 100)
    (hg : GB w VA VB UA UB csA.length ca WA.length cb csB.length da WB.length db fA fB X) (hbt : X.heap[bt]? = some (.cells #[.map (some mt)] 115 (0, 0))) (hmt : MP encS X mt (twF J))
    (hnext : Hid (∀ a' X' z bto mto bk bs, w.heap.size + 3 ≤ z → R21 w VA VB UA UB ca cb da db csA csB fA fB WA WB J v21 A n cap L z bt mt bto mto bk bs 2 a' X' → (gpT 37).wp Try.prog Q a' X'))
    (ha : FrN 234 [] [(0, .slice A n cap), (5, .pointer (some ⟨w.heap.size, 0, none⟩)), (6, .pointer (some ⟨w.heap.size + 1, 0, none⟩)), (8, .pointer (some ⟨w.heap.size + 2, 0, none⟩)), (12, .pointer (some ⟨bt, 0, none⟩)), (21, v21)] a) : (gpT 21).wp Try.prog Q a X := by
  subst hn
  obtain ⟨U, rfl, e0, e5, e6, e8, e12, e21, -⟩ := ha.open
  have HG := Lib.hid (And.intro hg (And.intro hbt hmt))
  have hl := hg.lt
  have a0 := hg.a.c0
  have a1 := hg.a.c1
  have a2 := hg.a.c2
  have b0 := hg.b.c0
  have b1 := hg.b.c1
  have b2 := hg.b.c2
  have l5 : w.heap.size < X.heap.size := by omega
  have l6 : w.heap.size + 1 < X.heap.size := by omega
  have l5' : w.heap.size < X.heap.size + 1 := by omega
  have l5'' : w.heap.size < X.heap.size + 1 + 1 := by omega
  have l6' : w.heap.size + 1 < X.heap.size + 1 := by omega
  have l6'' : w.heap.size + 1 < X.heap.size + 1 + 1 := by omega
  have hbl := heap_lt hbt
  have hml := hmt.lt
  unfold FrGL
  simp only [e0, e5, e6, e8, e12, e21]
  clear e0 e5 e6 e8 e12 e21 ha hg hbt hmt
  show (Code.seq _ _).wp _ _ _ _
  have hmm := @run_makeMap Try.prog
  go_upto_region 25 with fail
  clear hmm a0 a1 a2 b0 b1 b2
  rename_i K hK
  refine absW (fun Y => Below X.heap.size X Y ∧ X.heap.size + 4 ≤ Y.heap.size ∧ MP encS Y X.heap.size (fun _ => none) ∧ Y.heap[X.heap.size + 1]? = some (.cells #[.map (some X.heap.size)] 119 (0, 0)) ∧ Y.heap[X.heap.size + 2]? = some (.cells #[.int .i64 0] 3 (0, 0)) ∧ ∃ T fr, Y.heap[X.heap.size + 3]? = some (.cells #[.slice VA csA.length ca, .int .i64 (fA : Int), .slice VB WA.length cb, .slice UA csB.length da, .int .i64 (fB : Int), .slice UB WB.length db] T fr)) ?_ ?_
  · obtain ⟨f1, f2, f3, f4, f5, f6⟩ := four_new X (.map #[] 0) (.cells #[.map (some X.heap.size)] 119) (.cells #[.int .i64 0] 3) (.cells #[.slice VA csA.length ca, .int .i64 (fA : Int), .slice VB WA.length cb, .slice UA csB.length da, .int .i64 (fB : Int), .slice UB WB.length db] 26)
    exact ⟨f1, f2, ⟨[], 0, f3, by simp, by simp, by simp, fun a => rfl⟩, f4, f5, _, _, f6⟩
  rintro Y ⟨hy, hyl, hym, hyo, hyk, hys⟩
  have HY := Lib.hid (And.intro hy (And.intro hym (And.intro hyo (And.intro hyk hys))))
  clear hy hym hyo hyk hys
  refine wp_loop_ghost (fun n a' w' => ∃ k, n = 2 - k ∧ k ≤ 2 ∧ R21 w VA VB UA UB ca cb da db csA csB fA fB WA WB J v21 A L.length cap L Y.heap.size bt mt (X.heap.size + 1) X.heap.size (X.heap.size + 2) (X.heap.size + 3) k a' w') 2 ⟨0, by omega, by omega, ⟨⟨[], rfl, List.nodup_nil, by simp, rfl, rfl, rfl, rfl, rfl, rfl, rfl, rfl, rfl, rfl, rfl, rfl, rfl, rfl, trivial⟩, Nat.le_refl _, HG.out.1.below (HY.out.1.mono hl), (HY.out.1.block bt hbl).trans HG.out.2.1, HG.out.2.2.keep (HY.out.1.block mt hml), HY.out.2.2.1, HY.out.2.1, HY.out.2.2.2.1, HY.out.2.2.2.2, hl, by omega, by omega, by omega, by omega, by omega, by omega, by omega, by omega, by omega, by omega, by omega, by omega⟩⟩ ?_
  rintro n a' w' ⟨k, rfl, hk, hR⟩
  refine gr_21 _ w VA VB UA UB ca cb da db csA csB fA fB WA WB J v21 A L.length cap L _ _ _ _ _ _ _ k a' w' rfl HL hs hpos HCA HCB hcA hcB hfA hfB hk (Lib.hid fun a2 w2 hlt hR2 => ?_) (Lib.hid fun a2 w2 hkl hR2 => ?_) hR
  · exact ⟨_, by omega, k + 1, rfl, by omega, hR2⟩
  · subst hkl
    exact hK _ _ (hnext.out a2 w2 _ _ _ _ _ (by omega) hR2)
end
end Go.Proofs.Ytcebejcdfdahjaa
/-
  net.Plug: the links of both nets, and what leads from a side to the next.
-/
namespace Go.Proofs.Ytcebejcdfdahjaa
open Go.RowKit
attribute [local go_sem] cell_set
set_option maxRecDepth 100000
set_option linter.unusedVariables false

/-- Both maps of links, each in a box. -/
structure LB2 (WA WB : List (Pt × Pt)) (p q m1 m2 : Nat) (X : World) : Prop where
  fp : X.cell? ⟨p, 0, none⟩ = some (.map (some m1))
  fpl : p < X.heap.size
  fq : X.cell? ⟨q, 0, none⟩ = some (.map (some m2))
  fql : q < X.heap.size
  a : MP encPt X m1 (linkF WA WA.length)
  b : MP encPt X m2 (linkF WB WB.length)
theorem LB2.keep {WA WB : List (Pt × Pt)} {p q m1 m2 : Nat} {X Y : World} (h : LB2 WA WB p q m1 m2 X) (hb : Below X.heap.size X Y) : LB2 WA WB p q m1 m2 Y :=
  ⟨(hb.cell (p := ⟨p, 0, none⟩) h.fpl).trans h.fp, Nat.lt_of_lt_of_le h.fpl hb.size, (hb.cell (p := ⟨q, 0, none⟩) h.fql).trans h.fq, Nat.lt_of_lt_of_le h.fql hb.size, h.a.keep (hb.block m1 h.a.lt), h.b.keep (hb.block m2 h.b.lt)⟩
theorem net_links_n (VA : Option Addr) (n1 ca : Nat) (free : Int) (VB : Option Addr) (nW cb : Nat) (W : List (Pt × Pt)) (w : World) (h : nW = W.length ∧ WrRd w VB W ∧ W.length ≤ 40000) :
    Calls Try.prog 74 #[.agg #[.slice VA n1 ca, .int .i64 free, .slice VB nW cb]] w fun e w' => ∃ m, e = .returned (.map (some m)) ∧ MP encPt w' m (linkF W W.length) ∧ w.heap.size ≤ m ∧ Below w.heap.size w w' := by
  obtain ⟨rfl, h1, h2⟩ := h
  have := net_links VA VB ca cb (List.replicate n1 0) free W w (Lib.hid h1) h2
  unfold netV at this
  rw [List.length_replicate] at this
  exact this
section
variable (Q : Exit → Act → World → Prop) (w : World) (VA VB UA UB : Option Addr) (na ca cb nb da db : Nat) (fA fB : Int) (WA WB : List (Pt × Pt)) (v0 v12 v21 v22 : Value)
set_option maxHeartbeats 4000000 in
theorem gp_37 (ds : List Deferred) (a : Act) (X : World) (HWA : Hid (WrRd w VB WA)) (HWB : Hid (WrRd w UB WB)) (hwA : WA.length ≤ 40000) (hwB : WB.length ≤ 40000)
    (hg : GB w VA VB UA UB na ca WA.length cb nb da WB.length db fA fB X)
    (hnext : Hid (∀ a' X' p q m1 m2, FrN 234 ds [(0, v0), (5, .pointer (some ⟨w.heap.size, 0, none⟩)), (6, .pointer (some ⟨w.heap.size + 1, 0, none⟩)), (8, .pointer (some ⟨w.heap.size + 2, 0, none⟩)), (12, v12), (21, v21), (22, v22), (34, .func (.func 75) #[] #[.pointer (some ⟨q, 0, none⟩), .pointer (some ⟨p, 0, none⟩)])] a' → Below X.heap.size X X' → LB2 WA WB p q m1 m2 X' → (gpT 39).wp Try.prog Q a' X'))
    (ha : FrN 234 ds [(0, v0), (5, .pointer (some ⟨w.heap.size, 0, none⟩)), (6, .pointer (some ⟨w.heap.size + 1, 0, none⟩)), (8, .pointer (some ⟨w.heap.size + 2, 0, none⟩)), (12, v12), (21, v21), (22, v22)] a) : (gpT 37).wp Try.prog Q a X := by
  obtain ⟨U, rfl, e0, e5, e6, e8, e12, e21, e22, -⟩ := ha.open
  have HG := Lib.hid hg
  have hl := hg.lt
  have hbw := hg.bel
  have hkp : ∀ W, Below X.heap.size X W → (W.cell? ⟨w.heap.size, 0, none⟩ = some (.slice VA na ca) ∧ W.cell? ⟨w.heap.size, 1, none⟩ = some (.int .i64 fA) ∧ W.cell? ⟨w.heap.size, 2, none⟩ = some (.slice VB WA.length cb)) ∧ W.cell? ⟨w.heap.size + 1, 0, none⟩ = some (.slice UA nb da) ∧ W.cell? ⟨w.heap.size + 1, 1, none⟩ = some (.int .i64 fB) ∧ W.cell? ⟨w.heap.size + 1, 2, none⟩ = some (.slice UB WB.length db) := fun W hb => by
    have h1 := HG.out.a.below hb
    have h2 := HG.out.b.below hb
    exact ⟨⟨h1.c0, h1.c1, h1.c2⟩, h2.c0, h2.c1, h2.c2⟩
  have HKP := Lib.hid hkp
  have l5 : w.heap.size < X.heap.size := by omega
  have l6 : w.heap.size + 1 < X.heap.size := by omega
  unfold FrGL
  simp only [e0, e5, e6, e8, e12, e21, e22]
  clear e0 e5 e6 e8 e12 e21 e22 ha hg hkp
  show (Code.seq _ _).wp _ _ _ _
  go_upto_region 37 with fail
  go_cut [32, 33] from 191 to 233 (fun u v wx => ∃ p q m1 m2, u = .pointer (some ⟨p, 0, none⟩) ∧ v = .pointer (some ⟨q, 0, none⟩) ∧ Below X.heap.size X wx ∧ LB2 WA WB p q m1 m2 wx)
  case first =>
    have S0 := HKP.out X (Below.refl X.heap.size X)
    obtain ⟨⟨a0, a1, a2⟩, b0, b1, b2⟩ := S0
    have HCA : Hid (∀ W, Below X.heap.size X W → Calls Try.prog 74 #[.agg #[.slice VA na ca, .int .i64 fA, .slice VB WA.length cb]] W fun e w' => ∃ m, e = .returned (.map (some m)) ∧ MP encPt w' m (linkF WA WA.length) ∧ W.heap.size ≤ m ∧ Below W.heap.size W w') := fun W hb => net_links_n _ _ _ _ _ _ _ WA _ ⟨rfl, (HWA.out.below HG.out.bel).below hb, hwA⟩
    have HCB : Hid (∀ W, Below X.heap.size X W → Calls Try.prog 74 #[.agg #[.slice UA nb da, .int .i64 fB, .slice UB WB.length db]] W fun e w' => ∃ m, e = .returned (.map (some m)) ∧ MP encPt w' m (linkF WB WB.length) ∧ W.heap.size ≤ m ∧ Below W.heap.size W w') := fun W hb => net_links_n _ _ _ _ _ _ _ WB _ ⟨rfl, (HWB.out.below HG.out.bel).below hb, hwB⟩
    clear hbw
    go_region_held3 (fun W => (W.cell? ⟨w.heap.size, 0, none⟩ = some (.slice VA na ca) ∧ W.cell? ⟨w.heap.size, 1, none⟩ = some (.int .i64 fA) ∧ W.cell? ⟨w.heap.size, 2, none⟩ = some (.slice VB WA.length cb)) ∧ W.cell? ⟨w.heap.size + 1, 0, none⟩ = some (.slice UA nb da) ∧ W.cell? ⟨w.heap.size + 1, 1, none⟩ = some (.int .i64 fB) ∧ W.cell? ⟨w.heap.size + 1, 2, none⟩ = some (.slice UB WB.length db))
      (exact HKP.out _ (by (repeat (first | exact Below.refl _ _ | (with_reducible refine Below.drew ?_) | (with_reducible refine Below.alloc ?_ (by (try simp); (try omega)) _) | (with_reducible refine Below.setCell ?_ (by (try simp); (try omega)) _) | (with_reducible refine Below.trans ?_ (Below.mono (by assumption) (by (try simp); (try omega))))))))
      (first
        | ((with_reducible refine (HCA.out _ (by (repeat (first | exact Below.refl _ _ | (with_reducible refine Below.drew ?_) | (with_reducible refine Below.alloc ?_ (by (try simp); (try omega)) _) | (with_reducible refine Below.setCell ?_ (by (try simp); (try omega)) _) | (with_reducible refine Below.trans ?_ (Below.mono (by assumption) (by (try simp); (try omega)))))))).mono ?_); rintro e w1 ⟨m1, rfl, hmp1, hml1, hb1⟩; dsimp only; obtain ⟨hc1, hf1⟩ := bcell hb1; have hz1 := hb1.size; (try simp at hz1); have q0 : X.heap.size ≤ w1.heap.size := (by omega); (try have q1 : X.heap.size < w1.heap.size := (by omega)); (try have q2 : X.heap.size + 1 < w1.heap.size := (by omega)))
        | ((with_reducible refine (HCB.out _ (by (repeat (first | exact Below.refl _ _ | (with_reducible refine Below.drew ?_) | (with_reducible refine Below.alloc ?_ (by (try simp); (try omega)) _) | (with_reducible refine Below.setCell ?_ (by (try simp); (try omega)) _) | (with_reducible refine Below.trans ?_ (Below.mono (by assumption) (by (try simp); (try omega)))))))).mono ?_); rintro e w2 ⟨m2, rfl, hmp2, hml2, hb2⟩; dsimp only; obtain ⟨hc2, hf2⟩ := bcell hb2; have hz2 := hb2.size; (try simp at hz2); have r0 : X.heap.size ≤ w2.heap.size := (by omega); (try have r1 : X.heap.size < w2.heap.size := (by omega)); (try have r2 : X.heap.size + 1 < w2.heap.size := (by omega)); (try have r3 : w1.heap.size < w2.heap.size := (by omega)); (try have r4 : w1.heap.size + 1 < w2.heap.size := (by omega))))
    all_goals
      go_wp2_with fail
      go_meet
      case rel =>
        have g1 := hmp1.lt
        have g2 := hmp2.lt
        have g3 := hb2.size
        simp only [World.size_alloc, World.size_drew] at hml1 hml2 g3
        refine ⟨_, _, m1, m2, rfl, rfl, ?_, ⟨?_, ?_, ?_, ?_, hmp1.keep ?_, hmp2.keep ?_⟩⟩
        · (repeat (first | exact Below.refl _ _ | (with_reducible refine Below.drew ?_) | (with_reducible refine Below.alloc ?_ (by (try simp); (try omega)) _) | (with_reducible refine Below.setCell ?_ (by (try simp); (try omega)) _) | (with_reducible refine Below.trans ?_ (Below.mono (by assumption) (by (try simp); (try omega))))))
        · go_simp
        · (try simp) <;> omega
        · go_simp
        · (try simp) <;> omega
        · repeat (first
            | exact rfl
            | (with_reducible refine (Below.heap_alloc _ _ _ (by (try simp); omega)).trans ?_)
            | (with_reducible refine (Below.heap_setCell _ _ _ _ (by (try simp); omega)).trans ?_)
            | (with_reducible refine (hb2.block _ (by (try simp); omega)).trans ?_))
        · repeat (first
            | exact rfl
            | (with_reducible refine (Below.heap_alloc _ _ _ (by (try simp); omega)).trans ?_)
            | (with_reducible refine (Below.heap_setCell _ _ _ _ (by (try simp); omega)).trans ?_)
            | (with_reducible refine (hb2.block _ (by (try simp); omega)).trans ?_))
  case rest =>
    obtain ⟨p, q, m1, m2, rfl, rfl, hbx, hlb⟩ := hcut
    have HF := Lib.hid (And.intro hbx hlb)
    clear hbx hlb
    repeat (first
      | exact hnext.out _ _ p q m1 m2 ⟨rfl, rfl, rfl, rfl, rfl, rfl, rfl, rfl, rfl, rfl, trivial⟩ HF.out.1 HF.out.2
      | go_values | go_skip | go_guarded | go_step | go_upon | go_back)
end
end Go.Proofs.Ytcebejcdfdahjaa
namespace Go.Proofs.Ytcebejcdfdahjaa
open Go.RowKit
attribute [local go_sem] cell_set
set_option maxRecDepth 100000
set_option linter.unusedVariables false

set_option maxHeartbeats 1000000 in
theorem plug_next {WA WB : List (Pt × Pt)} (x : Sd) (p q m1 m2 : Nat) (W : World) (h : LB2 WA WB p q m1 m2 W) (hA : (ends WA).Nodup) (hB : (ends WB).Nodup) :
    Calls Try.prog 75 #[encS x, .pointer (some ⟨q, 0, none⟩), .pointer (some ⟨p, 0, none⟩)] W fun e w' => e = .returned (encS (nxS WA WB x)) ∧ Below W.heap.size W w' := by
  obtain ⟨sc, a, b⟩ := x
  have gd : ∀ o : Option Pt, (o.map encPt).getD (encPt (0, 0)) = encPt (o.getD (0, 0)) := fun o => by cases o <;> rfl
  have hal : ∀ (o1 o2 : Obj) k, k < W.heap.size → ((W.alloc o1).alloc o2).heap[k]? = W.heap[k]? := fun o1 o2 k hk => (Below.heap_alloc _ _ _ (by simp; omega)).trans (Below.heap_alloc _ _ _ hk)
  have l1 := h.fpl
  have l2 := h.fql
  have c1 := h.fp
  have c2 := h.fq
  unfold encS
  cases sc
  · have lk := (h.a.keep (hal (.cells #[.bool false, .int .i64 a, .int .i64 b] 117) (.cells #[.bool false, .int .i64 0, .int .i64 0] 117) m1 h.a.lt)).lookup kport Try.underlying102 zport (a, b) false
    rw [linkF_lnk hA (Nat.le_refl _), List.take_length] at lk
    simp only [Bool.false_eq_true, if_false] at lk
    rw [gd] at lk
    have hn : Hid (nxS WA WB (false, (a, b)) = (false, (lnk WA (a, b)).getD (0, 0))) := rfl
    generalize (lnk WA (a, b)).getD (0, 0) = r at lk hn
    obtain ⟨r1, r2⟩ := r
    simp only [encPt] at lk
    clear gd hal h
    go_enter Try.func75, Try.ntmps75
    go_wp2_with fail
    refine bodyPost_ret (v := .agg #[.bool false, .int .i64 r1, .int .i64 r2]) (by simp only [results, Try.results75]; go_simp) rfl ⟨?_, ?_⟩
    · rw [hn.out]
    · (repeat (first | exact Below.refl _ _ | (with_reducible refine Below.drew ?_) | (with_reducible refine Below.alloc ?_ (by (try simp); (try omega)) _) | (with_reducible refine Below.setCell ?_ (by (try simp); (try omega)) _) | (with_reducible refine Below.trans ?_ (Below.mono (by assumption) (by (try simp); (try omega))))))
  · have lk := (h.b.keep (hal (.cells #[.bool true, .int .i64 a, .int .i64 b] 117) (.cells #[.bool false, .int .i64 0, .int .i64 0] 117) m2 h.b.lt)).lookup kport Try.underlying102 zport (a, b) false
    rw [linkF_lnk hB (Nat.le_refl _), List.take_length] at lk
    simp only [Bool.false_eq_true, if_false] at lk
    rw [gd] at lk
    have hn : Hid (nxS WA WB (true, (a, b)) = (true, (lnk WB (a, b)).getD (0, 0))) := rfl
    generalize (lnk WB (a, b)).getD (0, 0) = r at lk hn
    obtain ⟨r1, r2⟩ := r
    simp only [encPt] at lk
    clear gd hal h
    go_enter Try.func75, Try.ntmps75
    go_wp2_with fail
    refine bodyPost_ret (v := .agg #[.bool true, .int .i64 r1, .int .i64 r2]) (by simp only [results, Try.results75]; go_simp) rfl ⟨?_, ?_⟩
    · rw [hn.out]
    · (repeat (first | exact Below.refl _ _ | (with_reducible refine Below.drew ?_) | (with_reducible refine Below.alloc ?_ (by (try simp); (try omega)) _) | (with_reducible refine Below.setCell ?_ (by (try simp); (try omega)) _) | (with_reducible refine Below.trans ?_ (Below.mono (by assumption) (by (try simp); (try omega))))))
end Go.Proofs.Ytcebejcdfdahjaa
