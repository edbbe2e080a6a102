/-
  The ports of a net as an iterator: net.ports$1, net.ports.
-/
import Derived.Test.YtogbanlfihabpaaRef03K
import Derived.Test.YtogbanlfihabpaaRange
import Derived.Shelf.Abstract
import Derived.OwnWalkIn
import Derived.TacticsInMore
import Derived.LoopNIn
import Derived.LoopIn
/-
  What a map of seen numbers holds. (Split off from Numbers.)
-/
namespace Go.Proofs.Ytogbanlfihabpaa
open Go.RowKit
attribute [local go_sem] cell_set
set_option maxRecDepth 100000
set_option linter.unusedVariables false

theorem zbool : ∀ W, (zeroValue 4).run Try.prog W = .ok (.bool false) W := fun W => by kernel_rfl
end Go.Proofs.Ytogbanlfihabpaa
namespace Go.Proofs.Ytogbanlfihabpaa
open Go.RowKit Go.Shelf
attribute [local go_sem] Oper.semAt_some
set_option maxRecDepth 100000
set_option linter.unusedVariables false

def ablk : Option Addr → List Nat
  | some a => [a.block]
  | none => []
def ablkL (A : Option Addr) (l : List Int) : List Nat := if l.length = 0 then [] else ablk A
theorem IntsRd.kq {w w' : World} {A : Option Addr} {l : List Int} {Q : List Nat} (h : IntsRd w A l) (hk : KQ Q w w') (hQ : ∀ b ∈ ablkL A l, b ∈ Q) : IntsRd w' A l := fun i hi => by
  obtain ⟨b, off, rfl, hlt, h0⟩ := h i hi
  exact ⟨b, off, rfl, Nat.lt_of_lt_of_le hlt hk.size, (hk.cell (p := ⟨b, off + i, none⟩) (hQ b (by unfold ablkL; rw [if_neg (by omega)]; simp [ablk]))).trans h0⟩
theorem AgRd.kq {w w' : World} {A : Option Addr} {L : List (ByteArray × Int)} {Q : List Nat} (h : AgRd w A L) (hk : KQ Q w w') (hQ : ∀ b ∈ ablk A, b ∈ Q) : AgRd w' A L := fun i hi => by
  obtain ⟨b, off, rfl, hlt, h0, h1⟩ := h i hi
  exact ⟨b, off, rfl, Nat.lt_of_lt_of_le hlt hk.size, (hk.cell (p := ⟨b, off + i * 2, none⟩) (hQ b (by simp [ablk]))).trans h0, (hk.cell (p := ⟨b, off + i * 2 + 1, none⟩) (hQ b (by simp [ablk]))).trans h1⟩
/-- What the iterator reads. -/
structure PSet (w : World) (Bn Bs : Nat) (A : Option Addr) (cap : Nat) (L : List (ByteArray × Int)) (VA VB : Option Addr) (ca cb : Nat) (cells : List Int) (free n2 : Nat) : Prop where
  n : NBox w Bn VA cells.length ca free VB n2 cb
  s : w.cell? ⟨Bs, 0, none⟩ = some (.slice A L.length cap)
  sl : Bs < w.heap.size
  c : IntsRd w VA cells
  a : AgRd w A L
def pQ (Bn Bs : Nat) (A VA : Option Addr) (cells : List Int) : List Nat := Bn :: Bs :: (ablk A ++ ablkL VA cells)
theorem PSet.kq {w w' : World} {Bn Bs cap ca cb free n2 : Nat} {A VA VB : Option Addr} {L : List (ByteArray × Int)} {cells : List Int} {Q : List Nat} (h : PSet w Bn Bs A cap L VA VB ca cb cells free n2) (hk : KQ Q w w') (hQ : ∀ b ∈ pQ Bn Bs A VA cells, b ∈ Q) : PSet w' Bn Bs A cap L VA VB ca cb cells free n2 :=
  ⟨⟨Nat.lt_of_lt_of_le h.n.lt hk.size, (hk.cell (p := ⟨Bn, 0, none⟩) (hQ _ (by simp [pQ]))).trans h.n.c0, (hk.cell (p := ⟨Bn, 1, none⟩) (hQ _ (by simp [pQ]))).trans h.n.c1, (hk.cell (p := ⟨Bn, 2, none⟩) (hQ _ (by simp [pQ]))).trans h.n.c2⟩,
    (hk.cell (p := ⟨Bs, 0, none⟩) (hQ _ (by simp [pQ]))).trans h.s, Nat.lt_of_lt_of_le h.sl hk.size, h.c.kq hk (fun b hb => hQ b (by simp [pQ, hb])), h.a.kq hk (fun b hb => hQ b (by simp [pQ, hb]))⟩
theorem PSet.below {w w' : World} {Bn Bs cap ca cb free n2 : Nat} {A VA VB : Option Addr} {L : List (ByteArray × Int)} {cells : List Int} (h : PSet w Bn Bs A cap L VA VB ca cb cells free n2) (hb : Below w.heap.size w w') : PSet w' Bn Bs A cap L VA VB ca cb cells free n2 :=
  ⟨h.n.below hb, (hb.cell (p := ⟨Bs, 0, none⟩) h.sl).trans h.s, Nat.lt_of_lt_of_le h.sl hb.size, h.c.below hb, h.a.below hb⟩
def numd (P : List Pt) : List (Nat × Pt) := P.zipIdx.map fun x => (x.2, x.1)
theorem numd_len (P : List Pt) : (numd P).length = P.length := by simp [numd]
theorem numd_snoc (P : List Pt) (p : Pt) : numd (P ++ [p]) = numd P ++ [(P.length, p)] := by simp [numd, List.zipIdx_append]
theorem numd_pre {P Q : List Pt} (h : P <+: Q) : numd P <+: numd Q := by
  obtain ⟨R, rfl⟩ := h
  unfold numd
  rw [List.zipIdx_append, List.map_append]
  exact List.prefix_append _ _
theorem numd_at (P : List Pt) {i : Nat} {x : Nat × Pt} (h : (numd P)[i]? = some x) : x.1 = i ∧ P[i]? = some x.2 := by
  simp only [numd, List.getElem?_map, Option.map_eq_some_iff] at h
  obtain ⟨y, hy, rfl⟩ := h
  rw [List.getElem?_zipIdx] at hy
  simp only [Nat.zero_add, Option.map_eq_some_iff] at hy
  obtain ⟨z, hz, rfl⟩ := hy
  exact ⟨rfl, hz⟩
theorem range_pre {a b : Nat} (h : a ≤ b) : List.range a <+: List.range b := by
  have : List.range a = (List.range b).take a := by rw [List.take_range, Nat.min_eq_left h]
  rw [this]; exact List.take_prefix _ _
theorem freePs_pre {a b : Nat} (h : a ≤ b) : freePs a <+: freePs b := by
  unfold freePs
  exact (range_pre h).map _
theorem cellPs_app (pn : Int → Nat) (c0 : Nat) (a b : List Int) : cellPs pn c0 (a ++ b) = cellPs pn c0 a ++ cellPs pn (c0 + a.length) b := by
  induction a generalizing c0 with
  | nil => simp [cellPs]
  | cons x r ih => simp only [List.cons_append, cellPs, ih, List.append_assoc, List.length_cons]; rw [show c0 + 1 + r.length = c0 + (r.length + 1) by omega]
theorem partPs_pre (pn : Int → Nat) (cells : List Int) (free c s : Nat) (hc : c < cells.length) (hs : s ≤ pn (cells.getD c 0)) : partPs pn cells free c s <+: allPs pn cells free := by
  unfold partPs allPs
  have e : cells = cells.take c ++ (cells.getD c 0 :: cells.drop (c + 1)) := by
    have h1 : cells.getD c 0 = cells[c] := by rw [List.getD_eq_getElem?_getD, List.getElem?_eq_getElem hc]; rfl
    rw [h1, ← List.drop_eq_getElem_cons hc, List.take_append_drop]
  have hl : (cells.take c).length = c := by simp; omega
  have e2 : cellPs pn 0 cells = cellPs pn 0 (cells.take c) ++ ((List.range (pn (cells.getD c 0))).map (fun (k : Nat) => ((c : Int), (k : Int))) ++ cellPs pn (c + 1) (cells.drop (c + 1))) := by
    conv => lhs; rw [e, cellPs_app, hl, Nat.zero_add, cellPs]
  rw [e2]
  refine (List.prefix_append_right_inj _).2 ((List.prefix_append_right_inj _).2 ?_)
  exact ((range_pre hs).map _).trans (List.prefix_append _ _)
theorem partPs_len_eq (pn : Int → Nat) (cells : List Int) (free : Nat) {c s : Nat} (hc : c ≤ cells.length) : (partPs pn cells free c s).length = firstN pn cells free c + s := by
  simp only [partPs, freePs, List.length_append, List.length_map, List.length_range, cellPs_len, firstN]; omega
theorem partPs_lt (pn : Int → Nat) (cells : List Int) (free c s : Nat) (hc : c < cells.length) (hs : s < pn (cells.getD c 0)) : (partPs pn cells free c s).length < (allPs pn cells free).length := by
  rw [partPs_len_eq pn cells free (by omega), allPs_len]
  have := firstN_mono pn cells free (c := c) (d := cells.length) hc (Nat.le_refl _)
  omega
def encP (x : Nat × Pt) : Array Value := #[.int .i64 (x.1 : Int), .agg #[.int .i64 x.2.1, .int .i64 x.2.2]]

set_option maxHeartbeats 4000000 in
theorem ports1_in (n l Bn Bs : Nat) (A : Option Addr) (cap : Nat) (L : List (ByteArray × Int)) (VA VB : Option Addr) (ca cb : Nat) (cells : List Int) (free n2 : Nat) (hs : SigOk L) (hc : cells.length ≤ 5000) (hf : free ≤ 100) (J Jx : List (Nat × Pt) → World → Prop) (W : World) (hJ : AbidesFrom W.heap.size J)
    (hY : ∀ pre x W1, J pre W1 → pre.length < (allPs (pnL L) cells free).length → YieldAt Fence.wide (n - 1) Try.prog l (encP x) W1 fun e W' =>
      (e = .returned (.bool true) ∧ J (pre ++ [x]) W' ∧ KQ (pQ Bn Bs A VA cells) W1 W') ∨ (e = .returned (.bool false) ∧ Jx (pre ++ [x]) W'))
    (hb : PSet W Bn Bs A cap L VA VB ca cb cells free n2) (h0 : J [] W) :
    CallsIn Fence.wide n Try.prog 52 #[.func (.yield l) #[] #[], .pointer (some ⟨Bn, 0, none⟩), .pointer (some ⟨Bs, 0, none⟩)] W fun e W' => (∃ v, e = .returned v) ∧
      ((∃ ys, ys = numd (allPs (pnL L) cells free) ∧ J ys W') ∨ (∃ pre, pre <+: numd (allPs (pnL L) cells free) ∧ Jx pre W')) := by
  have hll := hs.len
  refine callsIn_of_wp Try.func52 rfl trivial ?_ rfl
  simp only [Try.ntmps52, List.size_toArray, List.length_cons, List.length_nil, Nat.reduceAdd, Nat.reduceSub, Array.replicate_succ, Array.replicate_zero, List.push_toArray, List.append_toArray, List.nil_append, List.cons_append]
  have n1 := hb.n.c1
  have HB := Lib.hid hb
  have HY := Lib.hid hY
  have HJ := Lib.hid hJ
  have H0 := Lib.hid h0
  clear hb hY hJ h0
  gi_wp2
  gi_loopw [4, 5, 11] (fun at_ _ i wr => ∃ k : Nat, k ≤ free ∧ i = .int .i64 k ∧ at_ = .int .i64 k ∧ Hid (J (numd (freePs k)) wr ∧ KQ (pQ Bn Bs A VA cells) W wr)) (fun _ _ i _ => free - (intOf i).toNat)
  case atStart => exact ⟨0, Nat.zero_le _, rfl, rfl, Lib.hid ⟨H0.out, KQ.refl _ _⟩⟩
  case round =>
    obtain ⟨k, hk, rfl, rfl, X⟩ := hrel
    by_cases hlt : k < free
    · have HA2 : Hid (J (numd (freePs k)) (wr)) := X.out.1
      obtain ⟨fn, tmps, assign, body, hy, hR⟩ := HY.out _ (k, ((-1 : Int), (k : Int))) _ HA2.out (by rw [numd_len]; simp [freePs, allPs]; omega)
      have HR := Lib.hid hR
      unfold encP at hy
      clear hR n1
      gi_wp2
      refine ⟨fun h => (by cases h), HR.out.mono ?_⟩
      rintro e W3 (⟨rfl, hJ3, hk3⟩ | ⟨rfl, hJx3⟩)
      · have X3 : Hid (J (numd (freePs (k + 1))) W3 ∧ KQ (pQ Bn Bs A VA cells) W W3) := ⟨by rw [freePs_succ, numd_snoc, show (freePs k).length = k by simp [freePs]]; exact hJ3, X.out.2.trans hk3⟩
        clear hJ3 hk3
        gi_wp2
        go_roundw
        case rel => exact ⟨k + 1, by omega, by go_num, by go_num, X3⟩
        case measure => simp [intOf]; omega
      · have XX : Hid (Jx (numd (freePs (k + 1))) W3) := by show Jx _ _; rw [freePs_succ, numd_snoc, show (freePs k).length = k by simp [freePs]]; exact hJx3
        clear hJx3
        gi_wp2
        refine bodyPost_ret (results_none rfl _ _ _) rfl ?_
        exact ⟨⟨_, rfl⟩, .inr ⟨_, numd_pre ((freePs_pre (show k + 1 ≤ free by omega)).trans (List.prefix_append _ _)), XX.out⟩⟩
    · obtain rfl : k = free := by omega
      have HB2 := Lib.hid (HB.out.kq X.out.2 (fun b hb => hb))
      have X0 : Hid (J (numd (partPs (pnL L) cells k 0 0)) wr ∧ KQ (pQ Bn Bs A VA cells) wr wr) := ⟨by rw [show partPs (pnL L) cells k 0 0 = freePs k by simp [partPs, cellPs]]; exact X.out.1, KQ.refl _ _⟩
      have hk0 : Hid ((k : Int) = ((partPs (pnL L) cells k 0 0).length : Int)) := by show _ = _; simp [partPs, cellPs, freePs]
      have n0 := HB2.out.n.c0
      clear n1 X HB H0
      obtain ⟨wo, hwo⟩ : ∃ wo, wo = wr := ⟨_, rfl⟩
      subst hwo
      gi_wp2
      clear n0
      gi_loopw [4, 6, 7, 26] (fun at_ _ _ i wr => ∃ d : Nat, d ≤ cells.length ∧ i = .int .i64 d ∧ at_ = .int .i64 ((partPs (pnL L) cells k d 0).length : Int) ∧ Hid (J (numd (partPs (pnL L) cells k d 0)) wr ∧ KQ (pQ Bn Bs A VA cells) wo wr)) (fun _ _ _ i _ => cells.length - (intOf i).toNat)
      case atStart => exact ⟨0, Nat.zero_le _, rfl, by rw [hk0.out], X0⟩
      case round =>
        obtain ⟨d, hd, rfl, rfl, X2⟩ := hrel
        by_cases hltd : d < cells.length
        · have HB3 := Lib.hid (HB2.out.kq X2.out.2 (fun b hb => hb))
          obtain ⟨b, off, rfl, hb, e0⟩ := HB3.out.c d hltd
          have hnext := partPs_next (pnL L) cells k hltd
          have hpre : ∀ s, s ≤ pnL L (cells.getD d 0) → partPs (pnL L) cells k d s <+: allPs (pnL L) cells k := fun s h => partPs_pre _ _ _ _ _ hltd h
          have hltl : ∀ s, s < pnL L (cells.getD d 0) → (partPs (pnL L) cells k d s).length < (allPs (pnL L) cells k).length := fun s h => partPs_lt _ _ _ _ _ hltd h
          have hp := Lib.hid (hs.ports (cells.getD d 0))
          have HPE := Lib.hid (pnL_eq hs (cells.getD d 0))
          have hp7 := pnL_le hs (cells.getD d 0)
          generalize cells.getD d 0 = x at e0 hnext hp HPE hp7 hpre hltl
          have HNX := Lib.hid hnext
          have HPre := Lib.hid hpre
          have HLt := Lib.hid hltl
          have s0 := HB3.out.s
          have HLr := Lib.hid HB3.out.a
          obtain ⟨wo2, hwo2⟩ : ∃ wo, wo = wr := ⟨_, rfl⟩
          subst hwo2
          clear hnext hpre hltl X0 hk0
          gi_wp2_with fail
          refine ⟨trivial, fun h => (by cases h), callsIn_wide.2 ((ports_any _ _ _ L _ _ rfl (by simp only [maxLen]; omega) HLr hp.out.2.2).mono ?_)⟩
          rintro e w6 ⟨rfl, rfl⟩
          rw [HPE.out]
          gi_wp2
          clear e0 s0
          gi_loopw [4, 8, 34] (fun at_ _ i wr => ∃ s : Nat, s ≤ pnL L x ∧ i = .int .i64 s ∧ at_ = .int .i64 ((partPs (pnL L) cells k d s).length : Int) ∧ Hid (J (numd (partPs (pnL L) cells k d s)) wr ∧ KQ (pQ Bn Bs (A) (some ⟨b, off, none⟩) cells) wo wr)) (fun _ _ i _ => pnL L x - (intOf i).toNat)
          case atStart => exact ⟨0, Nat.zero_le _, rfl, rfl, X2⟩
          case round =>
            obtain ⟨s, hs3, rfl, rfl, X3⟩ := hrel
            clear X2
            by_cases hlts : s < pnL L x
            · have HA2 : Hid (J (numd (partPs (pnL L) cells k d s)) wr) := X3.out.1
              have hl1 := HLt.out s hlts
              obtain ⟨fn, tmps, assign, body, hy, hR⟩ := HY.out _ ((partPs (pnL L) cells k d s).length, ((d : Int), (s : Int))) _ HA2.out (by rw [numd_len]; exact hl1)
              have HR := Lib.hid hR
              have hl2 : (partPs (pnL L) cells k d (s + 1)).length = (partPs (pnL L) cells k d s).length + 1 := by rw [partPs_succ]; simp
              have hl3 : (partPs (pnL L) cells k d s).length ≤ 40000 := by have := partPs_len (pnL L) (pnL_le hs) cells k (c := d) (s := s) hd (by omega); omega
              have HL2 := Lib.hid hl2
              unfold encP at hy
              clear hR hl1 hl2
              generalize hLEN : (partPs (pnL L) cells k d s).length = len at hl3 hy HL2
              have HLEN := Lib.hid hLEN
              clear hLEN
              gi_wp2
              refine ⟨fun h => (by cases h), HR.out.mono ?_⟩
              rintro e W3 (⟨rfl, hJ3, hk3⟩ | ⟨rfl, hJx3⟩)
              · have X4 : Hid (J (numd (partPs (pnL L) cells k d (s + 1))) W3 ∧ KQ (pQ Bn Bs A (some ⟨b, off, none⟩) cells) wo W3) := ⟨by rw [partPs_succ, numd_snoc]; exact hJ3, X3.out.2.trans hk3⟩
                clear hJ3 hk3
                gi_wp2
                go_roundw
                case rel => exact ⟨s + 1, by omega, by go_num, by rw [HL2.out]; go_num, X4⟩
                case measure => simp [intOf]; omega
              · have XX : Hid (Jx (numd (partPs (pnL L) cells k d (s + 1))) W3) := by show Jx _ _; rw [partPs_succ, numd_snoc]; exact hJx3
                clear hJx3
                gi_wp2
                refine bodyPost_ret (results_none rfl _ _ _) rfl ?_
                exact ⟨⟨_, rfl⟩, .inr ⟨_, numd_pre (HPre.out (s + 1) (by omega)), XX.out⟩⟩
            · obtain rfl : s = pnL L x := by omega
              gi_wp2
              go_roundw
              case rel => exact ⟨d + 1, by omega, by go_num, by rw [HNX.out], by rw [← HNX.out]; exact X3⟩
              case measure => simp [intOf]; omega
        · obtain rfl : d = cells.length := by omega
          rw [partPs_all] at X2 ⊢
          gi_wp2
          go_end0
          exact ⟨⟨_, rfl⟩, .inl ⟨_, rfl, X2.out.1⟩⟩
theorem ports_seq (n Bn Bs : Nat) (A : Option Addr) (cap : Nat) (L : List (ByteArray × Int)) (VA VB : Option Addr) (ca cb : Nat) (cells : List Int) (free n2 : Nat) (hs : SigOk L) (hc : cells.length ≤ 5000) (hf : free ≤ 100) (w : World) (hb : PSet w Bn Bs A cap L VA VB ca cb cells free n2) :
    SeqStopsK Fence.wide n Try.prog 52 #[.pointer (some ⟨Bn, 0, none⟩), .pointer (some ⟨Bs, 0, none⟩)] encP (KQ (pQ Bn Bs A VA cells)) (fun ys => ys = numd (allPs (pnL L) cells free)) (fun pre => pre <+: numd (allPs (pnL L) cells free)) (allPs (pnL L) cells free).length w :=
  fun l J Jx W hW hJ _ hY h0 => ports1_in n l Bn Bs A cap L VA VB ca cb cells free n2 hs hc hf J Jx W hJ hY (hb.below hW) h0

set_option maxHeartbeats 400000 in
theorem net_ports (A : Option Addr) (n cap : Nat) (VA VB : Option Addr) (ca cb : Nat) (cells : List Int) (free : Nat) (W : List (Pt × Pt)) (L : List (ByteArray × Int)) (w : World) (hn : n = L.length) (HC : Hid (IntsRd w VA cells)) (HL : Hid (AgRd w A L)) :
    Calls Try.prog 38 #[.slice A n cap, netV VA ca cells free VB cb W] w fun e w' => e = .returned (.func (.func 52) #[] #[.pointer (some ⟨w.heap.size + 1, 0, none⟩), .pointer (some ⟨w.heap.size, 0, none⟩)]) ∧ PSet w' (w.heap.size + 1) w.heap.size A cap L VA VB ca cb cells free W.length ∧ Below w.heap.size w w' := by
  subst hn
  go_enter Try.func38, Try.ntmps38
  go_wp2
  go_ret
  have hB : Below w.heap.size w ((w.alloc (.cells #[.slice A L.length cap] 22)).alloc (.cells #[.slice VA cells.length ca, .int .i64 (free : Int), .slice VB W.length cb] 26)) := by (repeat (first | exact Below.refl _ _ | (with_reducible refine Below.drew ?_) | (with_reducible refine Below.alloc ?_ (by (try simp); (try omega)) _) | (with_reducible refine Below.setCell ?_ (by (try simp); (try omega)) _) | (with_reducible refine Below.trans ?_ (Below.mono (by assumption) (by (try simp); (try omega))))))
  exact ⟨rfl, ⟨⟨by simp, by go_simp, by go_simp, by go_simp⟩, by go_simp, by simp; omega, HC.out.below hB, HL.out.below hB⟩, hB⟩
end Go.Proofs.Ytogbanlfihabpaa
