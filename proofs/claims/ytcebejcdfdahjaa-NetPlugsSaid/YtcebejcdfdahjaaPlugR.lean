/-
  Contract of net.Plug.
-/
import Derived.Test.YtcebejcdfdahjaaPlugO
/-
  net.Plug: any two nets, any joins.
-/
namespace Go.Proofs.Ytcebejcdfdahjaa
open Go.RowKit
attribute [local go_sem] cell_set
set_option maxRecDepth 100000
set_option linter.unusedVariables false

def putAll (Ds : List Nat) (X : World) : World := Ds.foldl (fun X D => X.putObj D (.deferred none)) X
theorem putAll_heap : ∀ (Ds : List Nat) (X : World) (b : Nat), b ∉ Ds → (putAll Ds X).heap[b]? = X.heap[b]?
  | [], _, _, _ => rfl
  | D :: Ds, X, b, h => by
    show (putAll Ds (X.putObj D (.deferred none))).heap[b]? = _
    rw [putAll_heap Ds _ b (fun hm => h (by simp [hm]))]
    exact World.putObj_heap_other (fun e => h (by simp [e]))
theorem putAll_below {w : World} : ∀ (Ds : List Nat) (X : World), Below w.heap.size w X → (∀ D ∈ Ds, w.heap.size ≤ D) → Below w.heap.size w (putAll Ds X)
  | [], _, h, _ => h
  | D :: Ds, X, h, hD => putAll_below Ds _ (below_put h (hD D (by simp)) _) fun D' h' => hD D' (by simp [h'])
theorem leaves_all {F : Fence} {n : Nat} {P : Program} {fn : Func} {tmps : Array Value} {R : Ending → World → Prop} : ∀ (Ds : List Nat) (X : World), Ds.Nodup → (∀ D ∈ Ds, X.heap[D]? = some (.deferred (some []))) → LeavesInM F n P fn tmps R [] .returning (putAll Ds X) → LeavesInM F n P fn tmps R (dfs Ds) .returning X
  | [], _, _, _, h => h
  | D :: Ds, X, hn, hD, h => by
    obtain ⟨h1, h2⟩ := List.nodup_cons.1 hn
    refine leaveM (hD D (by simp)) (leaves_all Ds _ h2 (fun D' h' => ?_) h)
    exact (World.putObj_heap_other (fun e => h1 (by first | (rw [e]; exact h') | (rw [← e]; exact h')))).trans (hD D' (by simp [h']))
/-- What Plug returns: its result's box, and its error. -/
theorem plug_leave {F : Fence} {n : Nat} {R : Ending → World → Prop} {a : Act} {X : World} {b8 : Nat} {Ds : List Nat} {V1 V2 : Option Addr} {n1 c1 n2 c2 : Nat} {fr k : Int} (ha : FrN 234 (dfs Ds) [(8, .pointer (some ⟨b8, 0, none⟩)), (9, .int .i64 k)] a) (hn : Ds.Nodup) (hD : ∀ D ∈ Ds, X.heap[D]? = some (.deferred (some [])))
    (h8 : X.heap[b8]? = some (.cells #[.slice V1 n1 c1, .int .i64 fr, .slice V2 n2 c2] 26 (0, 0))) (hR : R (.returned (.tuple #[.agg #[.slice V1 n1 c1, .int .i64 fr, .slice V2 n2 c2], .int .i64 k])) (putAll Ds X)) : bodyPostM F n Try.prog Try.f32 R .ret a X := by
  obtain ⟨hsz, hdf, s8, s9, _⟩ := ha
  show LeavesInM F n Try.prog Try.f32 a.tmps R a.defers .returning X
  rw [hdf]
  refine leaves_all Ds X hn hD ?_
  have hb : b8 ∉ Ds := fun hm => by rw [hD b8 hm] at h8; cases h8
  have h8' := (putAll_heap Ds X b8 hb).trans h8
  have c0' : (putAll Ds X).cell? ⟨b8, 0, none⟩ = some (.slice V1 n1 c1) := by simp [World.cell?, h8']
  have c1' : (putAll Ds X).cell? ⟨b8, 1, none⟩ = some (.int .i64 fr) := by simp [World.cell?, h8']
  have c2' : (putAll Ds X).cell? ⟨b8, 2, none⟩ = some (.slice V2 n2 c2) := by simp [World.cell?, h8']
  have g8 : a.tmps[8]'(by rw [hsz]; omega) = .pointer (some ⟨b8, 0, none⟩) := (Array.getElem?_eq_some_iff.1 s8).2
  have g9 : a.tmps[9]'(by rw [hsz]; omega) = .int .i64 k := (Array.getElem?_eq_some_iff.1 s9).2
  refine ⟨_, ?_, hR⟩
  simp only [results, Try.f32]
  go_simp
end Go.Proofs.Ytcebejcdfdahjaa
namespace Go.Proofs.Ytcebejcdfdahjaa
open Go.RowKit
attribute [local go_sem] cell_set
set_option maxRecDepth 100000
set_option linter.unusedVariables false

/-- The error that Plug answers. -/
def plugE (kA kB : Int) (na nb : Nat) (fA fB : Int) (J : List (Int × Int)) : Int :=
  if kA ≠ 0 then kA else if kB ≠ 0 then kB else if ¬ JOk fA.toNat fB.toNat J then 1 else if 4096 < na + nb ∨ 64 < (leftF fA.toNat fB.toNat J).length then 15 else 0
theorem refl_fresh {w X : World} (h : Below w.heap.size w X) : NetFresh w X none 0 [] none 0 [] := ⟨⟨Row.nil _ _ _, by simp [ownB], h⟩, ⟨Row.nil _ _ _, by simp [ownB], h⟩⟩
theorem MP.congr {κ : Type} [DecidableEq κ] {enc : κ → Value} {w : World} {B : Nat} {f g : κ → Option Value} (h : MP enc w B f) (e : f = g) : MP enc w B g := e ▸ h
set_option maxHeartbeats 4000000 in
theorem net_plug (A : Option Addr) (n cap : Nat) (L : List (ByteArray × Int)) (VA VB UA UB V : Option Addr) (ca cb da db nJ cJ : Nat) (csA csB : List Int) (fA fB : Int) (WA WB : List (Pt × Pt)) (J : List (Int × Int)) (w : World)
    (hn : n = L.length) (hcap : L.length ≤ cap) (HL : Hid (AgRd w A L)) (hl : L.length ≤ maxLen) (HCA : Hid (IntsRd w VA csA)) (HWA : Hid (WrRd w VB WA)) (HCB : Hid (IntsRd w UA csB)) (HWB : Hid (WrRd w UB WB)) (hnJ : nJ = J.length) (HJ : Hid (PtsRd w V J)) (hJl : J.length ≤ 100000)
    (hcA : csA.length ≤ 10000) (hwA : WA.length ≤ 40000) (hcB : csB.length ≤ 10000) (hwB : WB.length ≤ 40000) (kA kB : Int) (hkA : (netChk (pnL L) L.length (chk L) csA fA WA).1 = kA) (hkB : (netChk (pnL L) L.length (chk L) csB fB WB).1 = kB) :
    Calls Try.prog 32 #[.slice A n cap, netV VA ca csA fA VB cb WA, netV UA da csB fB UB db WB, .slice V nJ cJ] w fun e w' => ∃ V1 c1 C F V2 c2 W', e = .returned (.tuple #[netV V1 c1 C F V2 c2 W', .int .i64 (plugE kA kB csA.length csB.length fA fB J)]) ∧ NetFresh w w' V1 c1 C V2 c2 W' ∧
      ((plugE kA kB csA.length csB.length fA fB J ≠ 0 ∧ C = [] ∧ F = 0 ∧ W' = []) ∨ (plugE kA kB csA.length csB.length fA fB J = 0 ∧ C = csA ++ csB ∧ F = ((leftF fA.toNat fB.toNat J).length : Int) ∧ W' = tidyF (allPs (pnL L) (csA ++ csB) (leftF fA.toNat fB.toNat J).length) (mP (pnL L) csA csB fA.toNat fB.toNat WA WB J))) := by
  subst hn hnJ
  obtain ⟨k, hk⟩ : ∃ k, plugE kA kB csA.length csB.length fA fB J = k := ⟨_, rfl⟩
  rw [hk]
  refine (callsIn_wide (n := 5)).1 (callsIn_of_wp_marks Try.func32 rfl trivial (wpIn_wide.2 ?_) rfl)
  simp only [Try.ntmps32, List.size_toArray, List.length_cons, List.length_nil, Nat.reduceAdd, Nat.reduceSub, Array.replicate_succ, Array.replicate_zero, List.push_toArray, List.append_toArray, List.nil_append, List.cons_append]
  refine (show ∀ a, FrN 234 [] [(0, .slice A L.length cap), (1, netV VA ca csA fA VB cb WA), (2, netV UA da csB fB UB db WB), (3, .slice V J.length cJ)] a → (gpT 0).wp Try.prog _ a w from ?_) _ ⟨rfl, rfl, rfl, rfl, rfl, rfl, trivial⟩
  intro a ha
  -- an error
  have hbad : ∀ (e : Int) a' X, e = k → k ≠ 0 → FrN 234 [] [(8, .pointer (some ⟨w.heap.size + 2, 0, none⟩)), (9, .int .i64 e)] a' → GB w VA VB UA UB csA.length ca WA.length cb csB.length da WB.length db fA fB X → bodyPostM Fence.wide 5 Try.prog Try.f32 (fun e w' => ∃ V1 c1 C F V2 c2 W', e = .returned (.tuple #[netV V1 c1 C F V2 c2 W', .int .i64 k]) ∧ NetFresh w w' V1 c1 C V2 c2 W' ∧
      ((k ≠ 0 ∧ C = [] ∧ F = 0 ∧ W' = []) ∨ (k = 0 ∧ C = csA ++ csB ∧ F = ((leftF fA.toNat fB.toNat J).length : Int) ∧ W' = tidyF (allPs (pnL L) (csA ++ csB) (leftF fA.toNat fB.toNat J).length) (mP (pnL L) csA csB fA.toNat fB.toNat WA WB J)))) .ret a' X := fun e a' X he h0 hf hg => by
    subst he
    exact plug_leave (Ds := []) (b8 := w.heap.size + 2) hf List.nodup_nil (by simp) hg.r ⟨none, 0, [], 0, none, 0, [], rfl, refl_fresh hg.bel, .inl ⟨h0, rfl, rfl, rfl⟩⟩
  refine gp_0 _ A _ cap L VA VB UA UB ca cb da db csA csB fA fB WA WB _ w a rfl hcap HL hl HCA HWA HCB HWB hcA hwA hcB hwB kA kB (Lib.hid hkA) (Lib.hid hkB) (Lib.hid fun a' X e he h0 hf hg => ?_) (Lib.hid fun hA0 hB0 a7 X7 hf7 hg7 => ?_) ha
  · have hke : e = k := by
      rw [← hk, he]
      unfold plugE
      by_cases h : kA ≠ 0
      · rw [if_pos h, if_pos h]
      · rw [if_neg h] at he ⊢
        rw [if_neg h, if_pos (by rw [← he]; exact h0)]
    exact hbad e a' X hke (hke ▸ h0) hf hg
  subst hA0 hB0
  obtain ⟨hz, hc4A, hf0A, hf64A, hagA, hokA⟩ := netChk_ok hkA
  obtain ⟨_, hc4B, hf0B, hf64B, hagB, hokB⟩ := netChk_ok hkB
  obtain ⟨fA, rfl⟩ := Int.eq_ofNat_of_zero_le hf0A
  obtain ⟨fB, rfl⟩ := Int.eq_ofNat_of_zero_le hf0B
  simp only [Int.toNat_natCast] at hokA hokB hbad ⊢
  have hs := chk_sig hz
  have hpos := chk_pos hz
  have hk2 : k = if ¬ JOk fA fB J then 1 else if 4096 < csA.length + csB.length ∨ 64 < (leftF fA fB J).length then 15 else 0 := by
    rw [← hk]
    unfold plugE
    simp only [Int.toNat_natCast]
    rw [if_neg (by simp), if_neg (by simp)]
  refine gp_7 _ w VA VB UA UB V csA.length ca WA.length cb csB.length da WB.length db J.length cJ fA fB J _ a7 X7 rfl HJ hJl (Lib.hid fun a18 X18 bt mt hf18 hg18 hbt18 hmt18 hj lbt lmt hne => ?_) (Lib.hid fun hnj a' X hf hg => ?_) hf7 hg7
  rotate_left
  · rw [if_pos hnj] at hk2
    exact hbad 1 a' X hk2.symm (by rw [hk2]; decide) hf hg
  rw [if_neg (by simpa using hj)] at hk2
  have hFl := leftF_len hj
  obtain ⟨F, hFe⟩ : ∃ F, (leftF fA fB J).length = F := ⟨_, rfl⟩
  rw [hFe] at hFl hk2
  simp only [hFe] at hbad ⊢
  have okA : Hid (NetOk (pnL L) csA fA WA) := hokA
  have okB : Hid (NetOk (pnL L) csB fB WB) := hokB
  refine gp_18 _ w VA VB UA UB V csA.length ca WA.length cb csB.length da WB.length db J.length cJ fA fB J _ _ F a18 X18 rfl hJl hFl (by omega) (by omega) (by omega) (by omega) (Lib.hid fun hna hF64 a21 X21 hf21 hx21 => ?_) (Lib.hid fun hbig a' X hf hg => ?_) hf18 hg18
  rotate_left
  · rw [if_pos hbig] at hk2
    exact hbad 15 a' X hk2.symm (by rw [hk2]; decide) hf hg
  subst hx21
  rw [if_neg (by omega)] at hk2
  subst hk2
  refine gp_21 _ w VA VB UA UB ca cb da db csA csB fA fB WA WB J _ A _ cap L bt mt a21 _ rfl HL hs hpos HCA HCB (by omega) (by omega) (by omega) (by omega) hg18 hbt18 hmt18 (Lib.hid fun a37 X37 z bto mto bk bs hz hR => ?_) hf21
  obtain ⟨⟨Ds, hDl, hDn, hDd, ⟨hsz, hdf, s0, s5, s6, s8, s12, s21, s22, _⟩⟩, hzl, hg37, ht37, htm37, ho37, hom37, hk37, hs37, l1, l2, l3, l4⟩ := hR
  have hto : (stK (pnL L) csA csB fA fB J 2).1 = toF (pnL L) csA csB fA fB J := by
    show (stT J (csA.length : Int) true (stT J 0 false (fun _ => none, 0) (allPs (pnL L) csA fA)) (allPs (pnL L) csB fB)).1 = _
    rw [toL_all (by omega) (by omega)]
    rfl
  refine gp_37 _ w VA VB UA UB csA.length ca cb csB.length da db fA fB WA WB _ _ _ _ (dfs Ds) a37 X37 HWA HWB hwA hwB hg37 (Lib.hid fun a39 X39 p q m1 m2 hf39 hb39 hlb => ?_) ⟨hsz, hdf, s0, s5, s6, s8, s12, s21, s22, trivial⟩
  refine gp_39 _ (pnL L) csA csB fA fB WA WB J _ _ _ _ _ (dfs Ds) bt mt bto mto p q m1 m2 a39 X39 okA okB (Lib.hid hj) ((hb39.block bt (heap_lt ht37)).trans ht37) (htm37.keep (hb39.block mt htm37.lt)) ((hb39.block bto (heap_lt ho37)).trans ho37) ((hom37.congr hto).keep (hb39.block mto hom37.lt)) hlb (Lib.hid fun a48 X48 m0 hf48 hb48 hm48 hml48 => ?_) hf39
  have hb4 : Below X37.heap.size X37 X48 := hb39.trans (hb48.mono hb39.size)
  have hg48 := hg37.below (hb4.mono hg37.lt)
  have hlk : ∀ p ∈ allPs (pnL L) (csA ++ csB) F, ∃ q, mP (pnL L) csA csB fA fB WA WB J p = some q := fun p hp => by
    rw [← hFe, allPs_left] at hp
    obtain ⟨x, hx, rfl⟩ := List.mem_map.1 hp
    exact ⟨_, mP_at hx⟩
  refine gp_48 _ w VA VB UA UB ca WA.length cb da WB.length db csA csB fA fB (dfs Ds) A _ cap L F m0 _ a48 X48 rfl HL hs hpos HCA HCB (by omega) (by omega) hg48 (Lib.hid hm48) (Lib.hid hlk) (Lib.hid fun a' X V1 c1 V2 c2 hf h8 hnf hkeep ho1 ho2 => ?_) hf48
  have hs4 := hb4.size
  have hD' : ∀ D ∈ Ds, X.heap[D]? = some (.deferred (some [])) ∧ w.heap.size ≤ D ∧ D < X48.heap.size := fun D hD => by
    obtain ⟨h1, h2⟩ := hDd D hD
    have h3 := heap_lt h2
    exact ⟨((hkeep D (by omega) (by omega)).trans (hb4.block D h3)).trans h2, by omega, by omega⟩
  have hbw := putAll_below Ds X hnf.1.2.2 fun D hD => (hD' D hD).2.1
  refine plug_leave (Ds := Ds) (b8 := w.heap.size + 2) hf hDn (fun D hD => (hD' D hD).1) h8 ⟨V1, c1, _, _, V2, c2, _, rfl, ⟨⟨hnf.1.1.keep fun b hb => putAll_heap Ds X b fun hm => ?_, hnf.1.2.1, hbw⟩, ⟨hnf.2.1.keep fun b hb => putAll_heap Ds X b fun hm => ?_, hnf.2.2.1, hbw⟩⟩, .inr ⟨rfl, rfl, rfl, rfl⟩⟩
  · have := ho1 b hb; have := (hD' b hm).2.2; omega
  · have := ho2 b hb; have := (hD' b hm).2.2; omega
end Go.Proofs.Ytcebejcdfdahjaa
