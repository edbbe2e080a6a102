/-
  Contract of net.Plug.
-/
import Derived.Test.YtcebejcdfdahjaaPlugK
/-
  net.Plug: its end: the net that comes.
-/
/-
  net.Plug: over the ports that are left.
-/
namespace Go.Proofs.Ytcebejcdfdahjaa
open Go.RowKit
attribute [local go_sem] cell_set
set_option maxRecDepth 100000
set_option linter.unusedVariables false

section
variable (Q : Exit → Act → World → Prop) (pn : Int → Nat) (csA csB : List Int) (fA fB : Nat) (WA WB : List (Pt × Pt)) (J : List (Int × Int)) (v0 v5 v6 v8 v21 : Value)
set_option maxHeartbeats 4000000 in
theorem gp_39 (ds : List Deferred) (bt mt bto mto p q m1 m2 : Nat) (a : Act) (X : World) (okA : Hid (NetOk pn csA fA WA)) (okB : Hid (NetOk pn csB fB WB)) (hJ : Hid (JOk fA fB J))
    (ht : X.heap[bt]? = some (.cells #[.map (some mt)] 115 (0, 0))) (htm : MP encS X mt (twF J)) (ho : X.heap[bto]? = some (.cells #[.map (some mto)] 119 (0, 0))) (hom : MP encS X mto (toF pn csA csB fA fB J)) (hl : LB2 WA WB p q m1 m2 X)
    (hnext : Hid (∀ a' X' m0, FrN 234 ds [(0, v0), (5, v5), (6, v6), (8, v8), (21, v21), (35, .map (some m0))] a' → Below X.heap.size X X' → MP encPt X' m0 (fun p => (mP pn csA csB fA fB WA WB J p).map encPt) → X.heap.size ≤ m0 → (gpT 48).wp Try.prog Q a' X'))
    (ha : FrN 234 ds [(0, v0), (5, v5), (6, v6), (8, v8), (12, .pointer (some ⟨bt, 0, none⟩)), (21, v21), (22, .pointer (some ⟨bto, 0, none⟩)), (34, .func (.func 75) #[] #[.pointer (some ⟨q, 0, none⟩), .pointer (some ⟨p, 0, none⟩)])] a) : (gpT 39).wp Try.prog Q a X := by
  obtain ⟨U, rfl, e0, e5, e6, e8, e12, e21, e22, e34, -⟩ := ha.open
  have hol := heap_lt ho
  have o0 : X.cell? ⟨bto, 0, none⟩ = some (.map (some mto)) := by simp [World.cell?, ho]
  have hX1 : Below X.heap.size X (X.alloc (.map #[] 0)) := (Below.refl _ _).alloc (Nat.le_refl _) _
  obtain ⟨w', n, hrun, hmi, hbr, hzr⟩ := (hom.keep (hX1.block mto hom.lt)).range (P := Try.prog) Try.underlying119
  have hmm := @run_makeMap Try.prog
  have hzr2 : w'.heap.size = X.heap.size + 2 := by rw [hzr]; simp
  have hb2 : Below X.heap.size X w' := hX1.trans (hbr.mono (by simp))
  have hm0 : MP encPt w' X.heap.size fun p => (mL pn csA csB fA fB WA WB J (fun a => (toF pn csA csB fA fB J a).isSome) p).map encPt := by
    rw [mL_start fun x hx => by rw [toF_at hx]; rfl]
    exact (MP.made (enc := encPt) X).keep (hbr.block _ (by simp))
  simp only [World.size_alloc] at hrun hmi
  have HI := Lib.hid (And.intro hmi (And.intro hzr2 (And.intro hb2 hm0)))
  have hS : S39 WA WB J w' bt mt bto mto p q m1 m2 X.heap.size (X.heap.size + 1) := by
    refine ⟨?_, heap_lt ht, htm.keep (hb2.block mt htm.lt), htm.lt, ?_, hol, hom.lt, hl.keep hb2, ⟨hl.fpl, hl.fql, hl.a.lt, hl.b.lt⟩, by omega, by omega⟩
    · have := (hb2.block bt (heap_lt ht)).trans ht
      simp [World.cell?, this]
    · have := (hb2.block bto hol).trans ho
      simp [World.cell?, this]
  have HS := Lib.hid hS
  unfold FrGL
  simp only [e0, e5, e6, e8, e12, e21, e22, e34]
  clear e0 e5 e6 e8 e12 e21 e22 e34 ha hbr hzr hzr2 hb2 hm0 hmi hS ht htm ho hom hl hX1
  show (Code.seq _ _).wp _ _ _ _
  go_upto_region 41 with fail
  rename_i K hK
  refine wp_loop_ghost (fun n a' X' => ∃ lf, R39 pn csA csB fA fB WA WB J v0 v5 v6 v8 v21 ds w' bt mt bto mto p q m1 m2 X.heap.size (X.heap.size + 1) lf n a' X') n ⟨_, ⟨rfl, rfl, rfl, rfl, rfl, rfl, rfl, rfl, rfl, rfl, rfl, rfl, trivial⟩, Kp.refl _ _, HI.out.1, HI.out.2.2.2⟩ ?_
  rintro n2 a2 X2 ⟨lf, hR⟩
  refine gr_39 _ pn csA csB fA fB WA WB J v0 v5 v6 v8 v21 ds w' bt mt bto mto p q m1 m2 _ _ lf n2 a2 X2 HS okA okB hJ (Lib.hid fun a3 X3 lf3 n3 hn3 hR3 => ?_) (Lib.hid fun a3 X3 hlf hR3 => ?_) hR
  · exact ⟨n3, hn3, lf3, hR3⟩
  · obtain ⟨⟨hsz, hdf, s0, s5, s6, s8, s12, s21, s22, s34, s35, s198, _⟩, hk, hmi, hm⟩ := hR3
    rw [mL_end hlf] at hm
    exact hK _ _ (hnext.out a3 X3 _ ⟨hsz, hdf, s0, s5, s6, s8, s21, s35, trivial⟩ (HI.out.2.2.1.trans (hk.below (by have := HI.out.2.1; omega) (by intro b hb; simp at hb; omega))) hm (Nat.le_refl _))
end
end Go.Proofs.Ytcebejcdfdahjaa
namespace Go.Proofs.Ytcebejcdfdahjaa
open Go.RowKit
attribute [local go_sem] cell_set
set_option maxRecDepth 100000
set_option linter.unusedVariables false

theorem ownStep {X w5 w6 : World} {B s : Nat} {v v0 : Value} (h5 : Below B X w5) (k6 : Kp (ownB v) w5 w6) (o5 : ownB v = ownB v0 ∨ ownB v = [s]) (h0 : ∀ b ∈ ownB v0, X.heap.size ≤ b) (hB : B = X.heap.size) (hs : X.heap.size ≤ s) : Below B X w6 := by
  subst hB
  refine h5.trans (k6.below h5.size fun b hb => ?_)
  rcases o5 with e | e
  · rw [e] at hb; exact h0 b hb
  · rw [e] at hb; simp at hb; omega
theorem belowStep {X w5 : World} {o : Obj} {F : List Nat} (k5 : Kp F (X.alloc o).drew w5) (hF : ∀ b ∈ F, X.heap.size ≤ b) : Below X.heap.size X w5 :=
  (((Below.refl X.heap.size X).alloc (Nat.le_refl _) _).drew).trans (k5.below (by show X.heap.size ≤ (X.alloc o).heap.size; simp) hF)
section
variable (Q : Exit → Act → World → Prop) (w : World) (VA VB UA UB : Option Addr) (ca wa cb da wb db : Nat) (csA csB : List Int) (fA fB : Int)
set_option maxHeartbeats 8000000 in
theorem gp_48 (ds : List Deferred) (A : Option Addr) (n cap : Nat) (L : List (ByteArray × Int)) (F m : Nat) (lk : Pt → Option Pt) (a : Act) (X : World) (hn : n = L.length) (HL : Hid (AgRd w A L)) (hs : SigOk L) (hpos : 0 < L.length) (HCA : Hid (IntsRd w VA csA)) (HCB : Hid (IntsRd w UA csB)) (hcl : csA.length + csB.length ≤ 5000) (hF : F ≤ 100)
    (hg : GB w VA VB UA UB csA.length ca wa cb csB.length da wb db fA fB X) (hm : Hid (MP encPt X m fun p => (lk p).map encPt)) (hlk : Hid (∀ p ∈ allPs (pnL L) (csA ++ csB) F, ∃ q, lk p = some q))
    (hk : Hid (∀ a' X' V1 c1 V2 c2, FrN 234 ds [(8, .pointer (some ⟨w.heap.size + 2, 0, none⟩)), (9, .int .i64 0)] a' → X'.heap[w.heap.size + 2]? = some (.cells #[.slice V1 (csA ++ csB).length c1, .int .i64 (F : Int), .slice V2 (tidyF (allPs (pnL L) (csA ++ csB) F) lk).length c2] 26 (0, 0)) → NetFresh w X' V1 c1 (csA ++ csB) V2 c2 (tidyF (allPs (pnL L) (csA ++ csB) F) lk) → (∀ b, w.heap.size + 3 ≤ b → b < X.heap.size → X'.heap[b]? = X.heap[b]?) → (∀ b ∈ ownB (.slice V1 (csA ++ csB).length c1), X.heap.size ≤ b) → (∀ b ∈ ownB (.slice V2 (tidyF (allPs (pnL L) (csA ++ csB) F) lk).length c2), X.heap.size ≤ b) → Q .ret a' X'))
    (ha : FrN 234 ds [(0, .slice A n cap), (5, .pointer (some ⟨w.heap.size, 0, none⟩)), (6, .pointer (some ⟨w.heap.size + 1, 0, none⟩)), (8, .pointer (some ⟨w.heap.size + 2, 0, none⟩)), (21, .int .i64 (F : Int)), (35, .map (some m))] a) : (gpT 48).wp Try.prog Q a X := by
  subst hn
  obtain ⟨U, rfl, e0, e5, e6, e8, e21, e35, -⟩ := ha.open
  obtain ⟨i0, hi0, hi1, hi2, hi3⟩ := info_parts int_info
  have hl := hg.lt
  have HG := Lib.hid hg
  have hkp : ∀ W, Below X.heap.size X W → W.cell? ⟨w.heap.size, 0, none⟩ = some (.slice VA csA.length ca) ∧ W.cell? ⟨w.heap.size + 1, 0, none⟩ = some (.slice UA csB.length da) := fun W hb =>
    ⟨(HG.out.a.below hb).c0, (HG.out.b.below hb).c0⟩
  have HKP := Lib.hid hkp
  have HKS : Hid (∀ (W : World) u0 u1 u2, (W.cell? ⟨w.heap.size, 0, none⟩ = some (.slice VA csA.length ca) ∧ W.cell? ⟨w.heap.size + 1, 0, none⟩ = some (.slice UA csB.length da)) → ((((W.setCell ⟨w.heap.size + 2, 0, none⟩ u0).setCell ⟨w.heap.size + 2, 1, none⟩ u1).setCell ⟨w.heap.size + 2, 2, none⟩ u2).cell? ⟨w.heap.size, 0, none⟩ = some (.slice VA csA.length ca) ∧ (((W.setCell ⟨w.heap.size + 2, 0, none⟩ u0).setCell ⟨w.heap.size + 2, 1, none⟩ u1).setCell ⟨w.heap.size + 2, 2, none⟩ u2).cell? ⟨w.heap.size + 1, 0, none⟩ = some (.slice UA csB.length da))) := fun W u0 u1 u2 h => by
    have hne : ∀ b, b ≠ w.heap.size + 2 → (((W.setCell ⟨w.heap.size + 2, 0, none⟩ u0).setCell ⟨w.heap.size + 2, 1, none⟩ u1).setCell ⟨w.heap.size + 2, 2, none⟩ u2).heap[b]? = W.heap[b]? := fun b hb =>
      (Below.heap_setCell _ _ _ b hb).trans ((Below.heap_setCell _ _ _ b hb).trans (Below.heap_setCell _ _ _ b hb))
    exact ⟨(World.cell?_of_block (hne w.heap.size (by omega))).trans h.1, (World.cell?_of_block (hne (w.heap.size + 1) (by omega))).trans h.2⟩
  have S0 := hkp X (Below.refl _ _)
  have HR0 : Hid (∀ W : World, W.heap[X.heap.size]? = some (.cells #[] 3 (0, 0)) → Row W 3 1 (.slice (some ⟨X.heap.size, 0, none⟩) 0 0) 0 []) := fun W hW => ⟨by simp, .inr ⟨X.heap.size, 0, #[], rfl, hW, Nat.le_refl _, by simp [maxLen], by simp, by simp⟩⟩
  have HSA : Hid (∀ W, Below X.heap.size X W → Src W VA csA.length 1 (ivals csA)) := fun W hb => ((HCA.out.below HG.out.bel).below hb).src
  have HSB : Hid (∀ W, Below X.heap.size X W → Src W UA csB.length 1 (ivals csB)) := fun W hb => ((HCB.out.below HG.out.bel).below hb).src
  have hA63 : 0 + csA.length ≤ maxLen := by simp only [maxLen]; omega
  have hA47 : (0 + csA.length) * 8 ≤ 140737488355328 := by omega
  have hB63 : csA.length + csB.length ≤ maxLen := by simp only [maxLen]; omega
  have hB47 : (csA.length + csB.length) * 8 ≤ 140737488355328 := by omega
  have HAB := Lib.hid (And.intro hA63 (And.intro hA47 (And.intro hB63 hB47)))
  have HI6 : Hid (∀ (W : World) V c, Row W 3 1 (.slice V (csA.length + csB.length) c) (csA.length + csB.length) (ivals csA ++ ivals csB) → IntsRd W V (csA ++ csB)) := fun W V c h => by
    have e1 : ivals csA ++ ivals csB = ivals (csA ++ csB) := by simp [ivals]
    have e2 : csA.length + csB.length = (csA ++ csB).length := by simp
    rw [e1, e2] at h
    exact h.ints
  have HBd : Hid (∀ (W : World) V c, Below X.heap.size X W → IntsRd W V (csA ++ csB) → Calls Try.prog 64 #[.slice A L.length cap, .slice V (csA.length + csB.length) c, .int .i64 (F : Int), .map (some m)] W fun e w' => ∃ V1 c1 V2 c2, e = .returned (netV V1 c1 (csA ++ csB) F V2 c2 (tidyF (allPs (pnL L) (csA ++ csB) F) lk)) ∧ NetFresh W w' V1 c1 (csA ++ csB) V2 c2 (tidyF (allPs (pnL L) (csA ++ csB) F) lk)) := fun W V c hb hI =>
    net_build A _ cap L V c (csA.length + csB.length) (csA ++ csB) F m lk W rfl (by simp) (Lib.hid ((HL.out.below HG.out.bel).below hb)) hs hpos (Lib.hid hI) (by simp; omega) hF (Lib.hid (hm.out.keep (hb.block m hm.out.lt))) hlk.out
  have l5 : w.heap.size < X.heap.size := by omega
  have l6 : w.heap.size + 1 < X.heap.size := by omega
  unfold FrGL
  simp only [e0, e5, e6, e8, e21, e35]
  clear e0 e5 e6 e8 e21 e35 ha hkp hg hA63 hA47 hB63 hB47
  show (Code.seq _ _).wp _ _ _ _
  go_upto_region 48 with fail
  go_region_held3 (fun W => W.cell? ⟨w.heap.size, 0, none⟩ = some (.slice VA csA.length ca) ∧ W.cell? ⟨w.heap.size + 1, 0, none⟩ = some (.slice UA csB.length da))
    (first | exact HKS.out _ _ _ _ (HKP.out _ (h6.trans (h7.mono h6.size))) | exact HKP.out _ (h6.trans (h7.mono h6.size)) | exact HKP.out _ h6 | exact HKP.out _ h5 | exact HKP.out _ (by (repeat (first | exact Below.refl _ _ | (with_reducible refine Below.drew ?_) | (with_reducible refine Below.alloc ?_ (by (try simp); (try omega)) _) | (with_reducible refine Below.setCell ?_ (by (try simp); (try omega)) _) | (with_reducible refine Below.trans ?_ (Below.mono (by assumption) (by (try simp); (try omega))))))))
    (first
      | ((with_reducible refine (HBd.out _ _ _ h6 (HI6.out _ _ _ r6)).mono ?_); rintro e w7 ⟨V3, c3, V4, c4, rfl, hnf⟩; dsimp only
         have h7 := hnf.1.2.2
         have q8 : w7.heap[w.heap.size + 2]? = some (.cells #[.slice none 0 0, .int .i64 0, .slice none 0 0] 26 (0, 0)) := ((h6.trans (h7.mono h6.size)).block _ (heap_lt HG.out.r)).trans HG.out.r
         have n0 : w7.cell? ⟨w.heap.size + 2, 0, none⟩ = some (.slice none 0 0) := by simp [World.cell?, q8]
         have n1 : w7.cell? ⟨w.heap.size + 2, 1, none⟩ = some (.int .i64 0) := by simp [World.cell?, q8]
         have n2 : w7.cell? ⟨w.heap.size + 2, 2, none⟩ = some (.slice none 0 0) := by simp [World.cell?, q8]
         have n3 : w7.frozen? ⟨w.heap.size + 2, 0, none⟩ = false := by simp [World.frozen?, q8]
         have n4 : w7.frozen? ⟨w.heap.size + 2, 1, none⟩ = false := by simp [World.frozen?, q8]
         have n5 : w7.frozen? ⟨w.heap.size + 2, 2, none⟩ = false := by simp [World.frozen?, q8]
         have HN7 := Lib.hid (And.intro hnf q8)
         clear hnf q8)
      | (refine inDraw (by rfl) (wpo_row_append _ _ _ (by rfl) i0 _ 8 Try.underlying23 hi0 hi1 hi2 hi3 (by rfl) (by rfl) (HR0.out _ (heap_alloc_new X _)) _ csA.length _ (by rfl) (ivals csA) (HSA.out _ (by (repeat (first | exact Below.refl _ _ | (with_reducible refine Below.drew ?_) | (with_reducible refine Below.alloc ?_ (by (try simp); (try omega)) _) | (with_reducible refine Below.setCell ?_ (by (try simp); (try omega)) _) | (with_reducible refine Below.trans ?_ (Below.mono (by assumption) (by (try simp); (try omega)))))))) HAB.out.1 HAB.out.2.1 ?_); intro sv5 w5 r5 k5 o5; rw [Nat.zero_add, List.nil_append] at r5; obtain ⟨V1, c1, rfl, hc1⟩ := r5.len
         have h5 := belowStep (X := X) k5 (by simp [ownB]))
      | (refine inDraw (by rfl) (wpo_row_append _ _ _ (by rfl) i0 _ 8 Try.underlying23 hi0 hi1 hi2 hi3 (by rfl) (by rfl) r5 _ csB.length _ (by rfl) (ivals csB) (HSB.out _ h5) HAB.out.2.2.1 HAB.out.2.2.2 ?_); intro sv6 w6 r6 k6 o6; obtain ⟨V2, c2, rfl, hc2⟩ := r6.len
         have h6 := ownStep h5 k6 o5 (by simp [ownB]) rfl (by (try simp) <;> omega)))
  go_wp2_with fail
  have hX7 : Below X.heap.size X w7 := h6.trans (h7.mono h6.size)
  have hne : ∀ b, b ≠ w.heap.size + 2 → (((w7.setCell ⟨w.heap.size + 2, 0, none⟩ (.slice V3 (csA.length + csB.length) c3)).setCell ⟨w.heap.size + 2, 1, none⟩ (.int .i64 (F : Int))).setCell ⟨w.heap.size + 2, 2, none⟩ (.slice V4 (tidyF (allPs (pnL L) (csA ++ csB) F) lk).length c4)).heap[b]? = w7.heap[b]? := fun b hb =>
    (Below.heap_setCell _ _ _ b hb).trans ((Below.heap_setCell _ _ _ b hb).trans (Below.heap_setCell _ _ _ b hb))
  have hbw : Below w.heap.size w (((w7.setCell ⟨w.heap.size + 2, 0, none⟩ (.slice V3 (csA.length + csB.length) c3)).setCell ⟨w.heap.size + 2, 1, none⟩ (.int .i64 (F : Int))).setCell ⟨w.heap.size + 2, 2, none⟩ (.slice V4 (tidyF (allPs (pnL L) (csA ++ csB) F) lk).length c4)) :=
    (((HG.out.bel.trans (hX7.mono HG.out.bel.size)).setCell (p := ⟨w.heap.size + 2, 0, none⟩) (by simp) _).setCell (p := ⟨w.heap.size + 2, 1, none⟩) (by simp) _).setCell (p := ⟨w.heap.size + 2, 2, none⟩) (by simp) _
  have h6s := h6.size
  obtain ⟨⟨hnf1, hnf2⟩, q8⟩ := HN7.out
  refine hk.out _ _ V3 c3 V4 c4 ⟨rfl, rfl, rfl, rfl, trivial⟩ ?_ ⟨⟨hnf1.1.keep fun b hb => hne b (by have := hnf1.2.1 b hb; omega), fun b hb => by have := hnf1.2.1 b hb; omega, hbw⟩, ⟨hnf2.1.keep fun b hb => hne b (by have := hnf2.2.1 b hb; omega), fun b hb => by have := hnf2.2.1 b hb; omega, hbw⟩⟩ (fun b hb hb2 => (hne b (by omega)).trans (hX7.block b hb2)) (fun b hb => by have := hnf1.2.1 b hb; omega) (fun b hb => by have := hnf2.2.1 b hb; omega)
  simp [World.setCell, Array.getElem?_modify, q8]

end
end Go.Proofs.Ytcebejcdfdahjaa
/-
  net.Plug: any two nets, any joins.
-/
namespace Go.Proofs.Ytcebejcdfdahjaa
open Go.RowKit
attribute [local go_sem] cell_set
set_option maxRecDepth 100000
set_option linter.unusedVariables false

def putAll (Ds : List Nat) (X : World) : World := Ds.foldl (fun X D => X.putObj D (.deferred none)) X
theorem putAll_heap : ∀ (Ds : List Nat) (X : World) (b : Nat), b ∉ Ds → (putAll Ds X).heap[b]? = X.heap[b]?
  | [], _, _, _ => rfl
  | D :: Ds, X, b, h => by
    show (putAll Ds (X.putObj D (.deferred none))).heap[b]? = _
    rw [putAll_heap Ds _ b (fun hm => h (by simp [hm]))]
    exact World.putObj_heap_other (fun e => h (by simp [e]))
theorem putAll_below {w : World} : ∀ (Ds : List Nat) (X : World), Below w.heap.size w X → (∀ D ∈ Ds, w.heap.size ≤ D) → Below w.heap.size w (putAll Ds X)
  | [], _, h, _ => h
  | D :: Ds, X, h, hD => putAll_below Ds _ (below_put h (hD D (by simp)) _) fun D' h' => hD D' (by simp [h'])
theorem leaves_all {F : Fence} {n : Nat} {P : Program} {fn : Func} {tmps : Array Value} {R : Ending → World → Prop} : ∀ (Ds : List Nat) (X : World), Ds.Nodup → (∀ D ∈ Ds, X.heap[D]? = some (.deferred (some []))) → LeavesInM F n P fn tmps R [] .returning (putAll Ds X) → LeavesInM F n P fn tmps R (dfs Ds) .returning X
  | [], _, _, _, h => h
  | D :: Ds, X, hn, hD, h => by
    obtain ⟨h1, h2⟩ := List.nodup_cons.1 hn
    refine leaveM (hD D (by simp)) (leaves_all Ds _ h2 (fun D' h' => ?_) h)
    exact (World.putObj_heap_other (fun e => h1 (by first | (rw [e]; exact h') | (rw [← e]; exact h')))).trans (hD D' (by simp [h']))
/-- What Plug returns: its result's box, and its error. -/
theorem plug_leave {F : Fence} {n : Nat} {R : Ending → World → Prop} {a : Act} {X : World} {b8 : Nat} {Ds : List Nat} {V1 V2 : Option Addr} {n1 c1 n2 c2 : Nat} {fr k : Int} (ha : FrN 234 (dfs Ds) [(8, .pointer (some ⟨b8, 0, none⟩)), (9, .int .i64 k)] a) (hn : Ds.Nodup) (hD : ∀ D ∈ Ds, X.heap[D]? = some (.deferred (some [])))
    (h8 : X.heap[b8]? = some (.cells #[.slice V1 n1 c1, .int .i64 fr, .slice V2 n2 c2] 26 (0, 0))) (hR : R (.returned (.tuple #[.agg #[.slice V1 n1 c1, .int .i64 fr, .slice V2 n2 c2], .int .i64 k])) (putAll Ds X)) : bodyPostM F n Try.prog Try.f32 R .ret a X := by
  obtain ⟨hsz, hdf, s8, s9, _⟩ := ha
  show LeavesInM F n Try.prog Try.f32 a.tmps R a.defers .returning X
  rw [hdf]
  refine leaves_all Ds X hn hD ?_
  have hb : b8 ∉ Ds := fun hm => by rw [hD b8 hm] at h8; cases h8
  have h8' := (putAll_heap Ds X b8 hb).trans h8
  have c0' : (putAll Ds X).cell? ⟨b8, 0, none⟩ = some (.slice V1 n1 c1) := by simp [World.cell?, h8']
  have c1' : (putAll Ds X).cell? ⟨b8, 1, none⟩ = some (.int .i64 fr) := by simp [World.cell?, h8']
  have c2' : (putAll Ds X).cell? ⟨b8, 2, none⟩ = some (.slice V2 n2 c2) := by simp [World.cell?, h8']
  have g8 : a.tmps[8]'(by rw [hsz]; omega) = .pointer (some ⟨b8, 0, none⟩) := (Array.getElem?_eq_some_iff.1 s8).2
  have g9 : a.tmps[9]'(by rw [hsz]; omega) = .int .i64 k := (Array.getElem?_eq_some_iff.1 s9).2
  refine ⟨_, ?_, hR⟩
  simp only [results, Try.f32]
  go_simp
end Go.Proofs.Ytcebejcdfdahjaa
namespace Go.Proofs.Ytcebejcdfdahjaa
open Go.RowKit
attribute [local go_sem] cell_set
set_option maxRecDepth 100000
set_option linter.unusedVariables false

/-- The error that Plug answers. -/
def plugE (kA kB : Int) (na nb : Nat) (fA fB : Int) (J : List (Int × Int)) : Int :=
  if kA ≠ 0 then kA else if kB ≠ 0 then kB else if ¬ JOk fA.toNat fB.toNat J then 1 else if 4096 < na + nb ∨ 64 < (leftF fA.toNat fB.toNat J).length then 15 else 0
theorem refl_fresh {w X : World} (h : Below w.heap.size w X) : NetFresh w X none 0 [] none 0 [] := ⟨⟨Row.nil _ _ _, by simp [ownB], h⟩, ⟨Row.nil _ _ _, by simp [ownB], h⟩⟩
theorem MP.congr {κ : Type} [DecidableEq κ] {enc : κ → Value} {w : World} {B : Nat} {f g : κ → Option Value} (h : MP enc w B f) (e : f = g) : MP enc w B g := e ▸ h
set_option maxHeartbeats 4000000 in
theorem net_plug (A : Option Addr) (n cap : Nat) (L : List (ByteArray × Int)) (VA VB UA UB V : Option Addr) (ca cb da db nJ cJ : Nat) (csA csB : List Int) (fA fB : Int) (WA WB : List (Pt × Pt)) (J : List (Int × Int)) (w : World)
    (hn : n = L.length) (hcap : L.length ≤ cap) (HL : Hid (AgRd w A L)) (hl : L.length ≤ maxLen) (HCA : Hid (IntsRd w VA csA)) (HWA : Hid (WrRd w VB WA)) (HCB : Hid (IntsRd w UA csB)) (HWB : Hid (WrRd w UB WB)) (hnJ : nJ = J.length) (HJ : Hid (PtsRd w V J)) (hJl : J.length ≤ 100000)
    (hcA : csA.length ≤ 10000) (hwA : WA.length ≤ 40000) (hcB : csB.length ≤ 10000) (hwB : WB.length ≤ 40000) (kA kB : Int) (hkA : (netChk (pnL L) L.length (chk L) csA fA WA).1 = kA) (hkB : (netChk (pnL L) L.length (chk L) csB fB WB).1 = kB) :
    Calls Try.prog 32 #[.slice A n cap, netV VA ca csA fA VB cb WA, netV UA da csB fB UB db WB, .slice V nJ cJ] w fun e w' => ∃ V1 c1 C F V2 c2 W', e = .returned (.tuple #[netV V1 c1 C F V2 c2 W', .int .i64 (plugE kA kB csA.length csB.length fA fB J)]) ∧ NetFresh w w' V1 c1 C V2 c2 W' ∧
      ((plugE kA kB csA.length csB.length fA fB J ≠ 0 ∧ C = [] ∧ F = 0 ∧ W' = []) ∨ (plugE kA kB csA.length csB.length fA fB J = 0 ∧ C = csA ++ csB ∧ F = ((leftF fA.toNat fB.toNat J).length : Int) ∧ W' = tidyF (allPs (pnL L) (csA ++ csB) (leftF fA.toNat fB.toNat J).length) (mP (pnL L) csA csB fA.toNat fB.toNat WA WB J))) := by
  subst hn hnJ
  obtain ⟨k, hk⟩ : ∃ k, plugE kA kB csA.length csB.length fA fB J = k := ⟨_, rfl⟩
  rw [hk]
  refine (callsIn_wide (n := 5)).1 (callsIn_of_wp_marks Try.func32 rfl trivial (wpIn_wide.2 ?_) rfl)
  simp only [Try.ntmps32, List.size_toArray, List.length_cons, List.length_nil, Nat.reduceAdd, Nat.reduceSub, Array.replicate_succ, Array.replicate_zero, List.push_toArray, List.append_toArray, List.nil_append, List.cons_append]
  refine (show ∀ a, FrN 234 [] [(0, .slice A L.length cap), (1, netV VA ca csA fA VB cb WA), (2, netV UA da csB fB UB db WB), (3, .slice V J.length cJ)] a → (gpT 0).wp Try.prog _ a w from ?_) _ ⟨rfl, rfl, rfl, rfl, rfl, rfl, trivial⟩
  intro a ha
  -- an error
  have hbad : ∀ (e : Int) a' X, e = k → k ≠ 0 → FrN 234 [] [(8, .pointer (some ⟨w.heap.size + 2, 0, none⟩)), (9, .int .i64 e)] a' → GB w VA VB UA UB csA.length ca WA.length cb csB.length da WB.length db fA fB X → bodyPostM Fence.wide 5 Try.prog Try.f32 (fun e w' => ∃ V1 c1 C F V2 c2 W', e = .returned (.tuple #[netV V1 c1 C F V2 c2 W', .int .i64 k]) ∧ NetFresh w w' V1 c1 C V2 c2 W' ∧
      ((k ≠ 0 ∧ C = [] ∧ F = 0 ∧ W' = []) ∨ (k = 0 ∧ C = csA ++ csB ∧ F = ((leftF fA.toNat fB.toNat J).length : Int) ∧ W' = tidyF (allPs (pnL L) (csA ++ csB) (leftF fA.toNat fB.toNat J).length) (mP (pnL L) csA csB fA.toNat fB.toNat WA WB J)))) .ret a' X := fun e a' X he h0 hf hg => by
    subst he
    exact plug_leave (Ds := []) (b8 := w.heap.size + 2) hf List.nodup_nil (by simp) hg.r ⟨none, 0, [], 0, none, 0, [], rfl, refl_fresh hg.bel, .inl ⟨h0, rfl, rfl, rfl⟩⟩
  refine gp_0 _ A _ cap L VA VB UA UB ca cb da db csA csB fA fB WA WB _ w a rfl hcap HL hl HCA HWA HCB HWB hcA hwA hcB hwB kA kB (Lib.hid hkA) (Lib.hid hkB) (Lib.hid fun a' X e he h0 hf hg => ?_) (Lib.hid fun hA0 hB0 a7 X7 hf7 hg7 => ?_) ha
  · have hke : e = k := by
      rw [← hk, he]
      unfold plugE
      by_cases h : kA ≠ 0
      · rw [if_pos h, if_pos h]
      · rw [if_neg h] at he ⊢
        rw [if_neg h, if_pos (by rw [← he]; exact h0)]
    exact hbad e a' X hke (hke ▸ h0) hf hg
  subst hA0 hB0
  obtain ⟨hz, hc4A, hf0A, hf64A, hagA, hokA⟩ := netChk_ok hkA
  obtain ⟨_, hc4B, hf0B, hf64B, hagB, hokB⟩ := netChk_ok hkB
  obtain ⟨fA, rfl⟩ := Int.eq_ofNat_of_zero_le hf0A
  obtain ⟨fB, rfl⟩ := Int.eq_ofNat_of_zero_le hf0B
  simp only [Int.toNat_natCast] at hokA hokB hbad ⊢
  have hs := chk_sig hz
  have hpos := chk_pos hz
  have hk2 : k = if ¬ JOk fA fB J then 1 else if 4096 < csA.length + csB.length ∨ 64 < (leftF fA fB J).length then 15 else 0 := by
    rw [← hk]
    unfold plugE
    simp only [Int.toNat_natCast]
    rw [if_neg (by simp), if_neg (by simp)]
  refine gp_7 _ w VA VB UA UB V csA.length ca WA.length cb csB.length da WB.length db J.length cJ fA fB J _ a7 X7 rfl HJ hJl (Lib.hid fun a18 X18 bt mt hf18 hg18 hbt18 hmt18 hj lbt lmt hne => ?_) (Lib.hid fun hnj a' X hf hg => ?_) hf7 hg7
  rotate_left
  · rw [if_pos hnj] at hk2
    exact hbad 1 a' X hk2.symm (by rw [hk2]; decide) hf hg
  rw [if_neg (by simpa using hj)] at hk2
  have hFl := leftF_len hj
  obtain ⟨F, hFe⟩ : ∃ F, (leftF fA fB J).length = F := ⟨_, rfl⟩
  rw [hFe] at hFl hk2
  simp only [hFe] at hbad ⊢
  have okA : Hid (NetOk (pnL L) csA fA WA) := hokA
  have okB : Hid (NetOk (pnL L) csB fB WB) := hokB
  refine gp_18 _ w VA VB UA UB V csA.length ca WA.length cb csB.length da WB.length db J.length cJ fA fB J _ _ F a18 X18 rfl hJl hFl (by omega) (by omega) (by omega) (by omega) (Lib.hid fun hna hF64 a21 X21 hf21 hx21 => ?_) (Lib.hid fun hbig a' X hf hg => ?_) hf18 hg18
  rotate_left
  · rw [if_pos hbig] at hk2
    exact hbad 15 a' X hk2.symm (by rw [hk2]; decide) hf hg
  subst hx21
  rw [if_neg (by omega)] at hk2
  subst hk2
  refine gp_21 _ w VA VB UA UB ca cb da db csA csB fA fB WA WB J _ A _ cap L bt mt a21 _ rfl HL hs hpos HCA HCB (by omega) (by omega) (by omega) (by omega) hg18 hbt18 hmt18 (Lib.hid fun a37 X37 z bto mto bk bs hz hR => ?_) hf21
  obtain ⟨⟨Ds, hDl, hDn, hDd, ⟨hsz, hdf, s0, s5, s6, s8, s12, s21, s22, _⟩⟩, hzl, hg37, ht37, htm37, ho37, hom37, hk37, hs37, l1, l2, l3, l4⟩ := hR
  have hto : (stK (pnL L) csA csB fA fB J 2).1 = toF (pnL L) csA csB fA fB J := by
    show (stT J (csA.length : Int) true (stT J 0 false (fun _ => none, 0) (allPs (pnL L) csA fA)) (allPs (pnL L) csB fB)).1 = _
    rw [toL_all (by omega) (by omega)]
    rfl
  refine gp_37 _ w VA VB UA UB csA.length ca cb csB.length da db fA fB WA WB _ _ _ _ (dfs Ds) a37 X37 HWA HWB hwA hwB hg37 (Lib.hid fun a39 X39 p q m1 m2 hf39 hb39 hlb => ?_) ⟨hsz, hdf, s0, s5, s6, s8, s12, s21, s22, trivial⟩
  refine gp_39 _ (pnL L) csA csB fA fB WA WB J _ _ _ _ _ (dfs Ds) bt mt bto mto p q m1 m2 a39 X39 okA okB (Lib.hid hj) ((hb39.block bt (heap_lt ht37)).trans ht37) (htm37.keep (hb39.block mt htm37.lt)) ((hb39.block bto (heap_lt ho37)).trans ho37) ((hom37.congr hto).keep (hb39.block mto hom37.lt)) hlb (Lib.hid fun a48 X48 m0 hf48 hb48 hm48 hml48 => ?_) hf39
  have hb4 : Below X37.heap.size X37 X48 := hb39.trans (hb48.mono hb39.size)
  have hg48 := hg37.below (hb4.mono hg37.lt)
  have hlk : ∀ p ∈ allPs (pnL L) (csA ++ csB) F, ∃ q, mP (pnL L) csA csB fA fB WA WB J p = some q := fun p hp => by
    rw [← hFe, allPs_left] at hp
    obtain ⟨x, hx, rfl⟩ := List.mem_map.1 hp
    exact ⟨_, mP_at hx⟩
  refine gp_48 _ w VA VB UA UB ca WA.length cb da WB.length db csA csB fA fB (dfs Ds) A _ cap L F m0 _ a48 X48 rfl HL hs hpos HCA HCB (by omega) (by omega) hg48 (Lib.hid hm48) (Lib.hid hlk) (Lib.hid fun a' X V1 c1 V2 c2 hf h8 hnf hkeep ho1 ho2 => ?_) hf48
  have hs4 := hb4.size
  have hD' : ∀ D ∈ Ds, X.heap[D]? = some (.deferred (some [])) ∧ w.heap.size ≤ D ∧ D < X48.heap.size := fun D hD => by
    obtain ⟨h1, h2⟩ := hDd D hD
    have h3 := heap_lt h2
    exact ⟨((hkeep D (by omega) (by omega)).trans (hb4.block D h3)).trans h2, by omega, by omega⟩
  have hbw := putAll_below Ds X hnf.1.2.2 fun D hD => (hD' D hD).2.1
  refine plug_leave (Ds := Ds) (b8 := w.heap.size + 2) hf hDn (fun D hD => (hD' D hD).1) h8 ⟨V1, c1, _, _, V2, c2, _, rfl, ⟨⟨hnf.1.1.keep fun b hb => putAll_heap Ds X b fun hm => ?_, hnf.1.2.1, hbw⟩, ⟨hnf.2.1.keep fun b hb => putAll_heap Ds X b fun hm => ?_, hnf.2.2.1, hbw⟩⟩, .inr ⟨rfl, rfl, rfl, rfl⟩⟩
  · have := ho1 b hb; have := (hD' b hm).2.2; omega
  · have := ho2 b hb; have := (hD' b hm).2.2; omega
end Go.Proofs.Ytcebejcdfdahjaa
