/-
  What skeinlaw12.alike has in memory: two nets, looked at; partners so far; the queue.
-/
import Derived.Test.YtogbanlfihabpaaRef03K
import Derived.Test.YtogbanlfihabpaaSamePlain
import Derived.Deep.AppendSrc
import Derived.Test.YtogbanlfihabpaaSamePlain
import Derived.BigQuiet
import Derived.Deep.QuietTactic
import Derived.Deep.RegionHeld3
import Derived.Deep.DeepCutAuto
import Derived.Deep.RegionLaw
import Derived.Test.YtogbanlfihabpaaRegionHS
import Derived.Deep.Cut
import Derived.Test.YtogbanlfihabpaaRef03N
/-
  A queue of pairs of ints: a slice anywhere in a block; append at its end, cut at its head.
-/
/-
  Rows of ports and of ints that 'make' makes; a list of ints, filled so far.
-/
namespace Go.Proofs.Ytogbanlfihabpaa
open Go.RowKit
attribute [local go_sem] cell_set
set_option maxRecDepth 100000
set_option linter.unusedVariables false

end Go.Proofs.Ytogbanlfihabpaa
namespace Go.Proofs.Ytogbanlfihabpaa
open Go.RowKit
set_option maxRecDepth 100000
set_option linter.unusedVariables false

def Win (w : World) (e : TypeId) (v : Value) (Q : List Pt) : Prop :=
  (v = .slice none 0 0 ∧ Q = []) ∨ ∃ g off cap cur, v = .slice (some ⟨g, off, none⟩) Q.length cap ∧ w.heap[g]? = some (.cells cur e (0, 0)) ∧ Q.length ≤ cap ∧ cap ≤ maxLen ∧ off + cap * 2 ≤ cur.size ∧
    ∀ j, j < Q.length → cur[off + j * 2]? = some (.int .i64 (Q.getD j default).1) ∧ cur[off + j * 2 + 1]? = some (.int .i64 (Q.getD j default).2)
section
variable {w w' : World} {e : TypeId} {v : Value} {Q : List Pt}
theorem Win.lt (h : Win w e v Q) : ∀ b ∈ ownB v, b < w.heap.size := by
  rcases h with ⟨rfl, _⟩ | ⟨g, off, cap, cur, rfl, hh, _⟩
  · simp [ownB]
  · intro b hb; simp [ownB] at hb; subst hb; exact heap_lt hh
theorem Win.keep (h : Win w e v Q) (hk : ∀ b ∈ ownB v, w'.heap[b]? = w.heap[b]?) : Win w' e v Q := by
  rcases h with h0 | ⟨g, off, cap, cur, rfl, hh, r⟩
  · exact .inl h0
  · exact .inr ⟨g, off, cap, cur, rfl, (hk g (by simp [ownB])).trans hh, r⟩
theorem Win.below (h : Win w e v Q) (hb : Below w.heap.size w w') : Win w' e v Q := h.keep fun b hm => hb.block b (h.lt b hm)
theorem Win.type (h : Win w e v Q) : ∀ b ∈ ownB v, ∃ cur, w.heap[b]? = some (.cells cur e (0, 0)) := by
  rcases h with ⟨rfl, _⟩ | ⟨g, off, cap, cur, rfl, hh, _⟩
  · simp [ownB]
  · intro b hb; simp [ownB] at hb; subst hb; exact ⟨cur, hh⟩
theorem Win.nil (w : World) (e : TypeId) : Win w e (.slice none 0 0) [] := .inl ⟨rfl, rfl⟩
theorem Win.form (h : Win w e v Q) : ∃ A cap, v = .slice A Q.length cap ∧ Q.length ≤ cap := by
  rcases h with ⟨rfl, rfl⟩ | ⟨g, off, cap, cur, rfl, _, hn, _⟩
  · exact ⟨none, 0, rfl, Nat.le_refl _⟩
  · exact ⟨_, cap, rfl, hn⟩
/-- The first pair. -/
theorem Win.head {p : Pt} (h : Win w e v (p :: Q)) : ∃ g off cap, v = .slice (some ⟨g, off, none⟩) (Q.length + 1) cap ∧ Q.length + 1 ≤ cap ∧ g < w.heap.size ∧ w.cell? ⟨g, off, none⟩ = some (.int .i64 p.1) ∧ w.cell? ⟨g, off + 1, none⟩ = some (.int .i64 p.2) ∧
    Win w e (.slice (if cap = 1 then some ⟨g, off, none⟩ else some ⟨g, off + 2, none⟩) Q.length (cap - 1)) Q := by
  rcases h with ⟨_, h⟩ | ⟨g, off, cap, cur, rfl, hh, hn, hm, hs, hx⟩
  · cases h
  · have h0 := hx 0 (by simp)
    simp only [Nat.zero_mul, Nat.add_zero, List.getD_cons_zero] at h0
    simp only [List.length_cons] at hn hx
    refine ⟨g, off, cap, by simp, by simpa using hn, heap_lt hh, by simp [World.cell?, hh, h0.1], by simp [World.cell?, hh, h0.2], .inr ?_⟩
    by_cases hc : cap = 1
    · subst hc
      have hq : Q = [] := List.eq_nil_of_length_eq_zero (by omega)
      subst hq
      rw [if_pos rfl]
      exact ⟨g, off, 0, cur, rfl, hh, by simp, by omega, by omega, fun j hj => by simp at hj⟩
    · rw [if_neg hc]
      refine ⟨g, off + 2, cap - 1, cur, rfl, hh, by omega, by omega, by omega, fun j hj => ?_⟩
      have := hx (j + 1) (by omega)
      simp only [List.getD_cons_succ] at this
      rw [show off + 2 + j * 2 = off + (j + 1) * 2 by omega]
      exact this
theorem Win.push {P : Program} (h : Win w e v Q) (t ty : TypeId) (i : TypeInfo) (z : Value) (ht : P.underlying t = some (.slice e)) (hi : P.info? e = some i) (hz : i.zero = some z) (hsize : i.size = 2) (hby : i.bytes = 16) (hzs : z.cells.size = 2)
    (A : Addr) (c : Nat) (x y : Int) (h0 : w.cell? A = some (.int .i64 x)) (h1 : w.cell? (A.add 1) = some (.int .i64 y)) (hA : A.add 0 = A) (hl : Q.length ≤ 1000000) :
    ∃ v' w', (Builtin.append_ #[t, t] ty #[v, .slice (some A) 1 c]).run P w = .ok v' w' ∧ Win w' e v' (Q ++ [(x, y)]) ∧ Kp (ownB v) w w' ∧ (ownB v' = ownB v ∨ ownB v' = [w.heap.size]) := by
  have hnews : ∀ j u, ([.int .i64 x, .int .i64 y] : List Value)[j]? = some u → w.cell? (A.add j) = some u := fun j u hu => by
    match j, hu with
    | 0, hu => rw [hA, h0]; simpa using hu
    | 1, hu => rw [h1]; simpa using hu
    | j + 2, hu => simp at hu
  have hone : ∀ u ∈ ([.int .i64 x, .int .i64 y] : List Value), u.oneCell' = true := fun u hu => by
    simp only [List.mem_cons, List.not_mem_nil, or_false] at hu
    rcases hu with rfl | rfl <;> rfl
  have hlen2 : ([.int .i64 x, .int .i64 y] : List Value).length = 1 * i.size := by rw [hsize]; rfl
  have fin : ∀ (old : Nat) (Z : Array Value), Z.size = (grownCap w (Q.length + 1) old e - (Q.length + 1)) * 2 →
      Win (w.drew.alloc (.cells ((pvals Q).toArray ++ ([.int .i64 x, .int .i64 y] : List Value).toArray ++ Z) e)) e (.slice (some ⟨w.heap.size, 0, none⟩) (Q.length + 1) (grownCap w (Q.length + 1) old e)) (Q ++ [(x, y)]) := fun old Z hZ => by
    have hge := grownCap_ge w (Q.length + 1) old e
    have hpl : (pvals Q).length = Q.length * 2 := pvals_len Q
    refine .inr ⟨w.heap.size, 0, grownCap w (Q.length + 1) old e, _, by simp, heap_alloc_new w.drew _, by simpa using hge, grownCap_le_maxLen w _ _ e (by simp only [maxLen]; omega), ?_, fun j hj => ?_⟩
    · simp only [Array.size_append, List.size_toArray, hpl, hZ, List.length_cons, List.length_nil]
      omega
    · have hjl : j < Q.length + 1 := by simpa using hj
      rw [Nat.zero_add]
      by_cases hjq : j < Q.length
      · obtain ⟨a0, a1⟩ := pvals_at Q hjq
        have e1 : (Q ++ [(x, y)]).getD j default = Q.getD j default := by simp [List.getD_eq_getElem?_getD, List.getElem?_append_left hjq]
        rw [e1, ← a0, ← a1]
        constructor <;> rw [Array.append_assoc, Array.getElem?_append_left (by simp [hpl]; omega)] <;> simp
      · obtain rfl : j = Q.length := by omega
        have e1 : (Q ++ [(x, y)]).getD Q.length default = (x, y) := by simp
        rw [e1]
        constructor
        · rw [Array.getElem?_append_left (by simp [hpl]), Array.getElem?_append_right (by simp [hpl])]
          simp [hpl]
        · rw [Array.getElem?_append_left (by simp [hpl]), Array.getElem?_append_right (by simp [hpl])]
          simp [hpl]
  have kpn : ∀ (F : List Nat) (o : Obj), Kp F w (w.drew.alloc o) := fun F o => ((Kp.refl _ w).drew).alloc o
  rcases h with ⟨rfl, rfl⟩ | ⟨g, off, cap, cur, rfl, hg, hn, hm, hs, hx⟩
  · have hr := run_append_nil (P := P) w t ty e i z ht hi hz A 1 c [.int .i64 x, .int .i64 y] hlen2 hnews (by omega) (by omega) (by omega)
    have hf := fin 0 (Builtin.zeroCells z.cells (grownCap w 1 0 e - 1)) (by rw [size_zeroCells, hzs]; rfl)
    simp only [List.length_nil, Nat.zero_add, List.nil_append, pvals, List.flatMap_nil, Array.empty_append] at hf ⊢
    exact ⟨_, _, hr, hf, kpn _ _, .inr rfl⟩
  · by_cases hroom : Q.length + 1 ≤ cap
    · have hsrc : Go.Src P i.size t (.slice (some A) 1 c) 1 [.int .i64 x, .int .i64 y] w := Go.Src.ofSlice w ht A 1 c _ hlen2 hnews hone
      have hc2 : ∀ j, j < 2 → (w.cell? ⟨g, off + Q.length * i.size + j, none⟩).isSome = true := fun j hj => by
        rw [hsize]
        have : off + Q.length * 2 + j < cur.size := by omega
        simp [World.cell?, hg, this]
      have hr := run_append_room_src (P := P) w t t ty e i ht hi g off Q.length cap (.slice (some A) 1 c) 1 _ hsrc hroom hc2 (fun j hj => by simp [World.frozen?, hg])
      rw [hsize] at hr
      refine ⟨_, _, hr, .inr ⟨g, off, cap, (cur.setIfInBounds (off + Q.length * 2) (.int .i64 x)).setIfInBounds (off + Q.length * 2 + 1) (.int .i64 y), by simp, ?_, by simpa using hroom, hm, by simpa using hs, fun j hj => ?_⟩, ?_, .inl rfl⟩
      · simp [World.setCells, World.setCell, Array.getElem?_modify, hg]
      · have hjl : j < Q.length + 1 := by simpa using hj
        have hb : off + Q.length * 2 + 1 < cur.size := by omega
        by_cases hjq : j < Q.length
        · have e1 : (Q ++ [(x, y)]).getD j default = Q.getD j default := by simp [List.getD_eq_getElem?_getD, List.getElem?_append_left hjq]
          rw [e1]
          obtain ⟨b0, b1⟩ := hx j hjq
          constructor
          · rw [Array.getElem?_setIfInBounds_ne (by omega), Array.getElem?_setIfInBounds_ne (by omega)]; exact b0
          · rw [Array.getElem?_setIfInBounds_ne (by omega), Array.getElem?_setIfInBounds_ne (by omega)]; exact b1
        · obtain rfl : j = Q.length := by omega
          have e1 : (Q ++ [(x, y)]).getD Q.length default = (x, y) := by simp
          rw [e1]
          constructor
          · rw [Array.getElem?_setIfInBounds_ne (by omega)]
            simp [show off + Q.length * 2 < cur.size by omega]
          · simp [hb]
      · simp only [World.setCells]
        exact ((Kp.refl _ w).setCell (p := ⟨g, off + Q.length * 2, none⟩) (.inl (by simp [ownB])) _).setCell (p := ⟨g, off + Q.length * 2 + 1, none⟩) (.inl (by simp [ownB])) _
    · have holds : ∀ j u, (pvals Q)[j]? = some u → w.cell? ((⟨g, off, none⟩ : Addr).add j) = some u := fun j u hu => by
        have hjl : j < Q.length * 2 := by
          rw [← pvals_len Q]
          rcases Nat.lt_or_ge j (pvals Q).length with hl | hl
          · exact hl
          · rw [List.getElem?_eq_none hl] at hu; cases hu
        rw [Addr.add_lit]
        obtain ⟨a0, a1⟩ := pvals_at Q (i := j / 2) (by omega)
        obtain ⟨b0, b1⟩ := hx (j / 2) (by omega)
        rcases (by omega : j = j / 2 * 2 ∨ j = j / 2 * 2 + 1) with hj | hj
        · rw [hj] at hu ⊢
          obtain rfl := Option.some.inj (a0.symm.trans hu)
          simp only [World.cell?, hg]
          exact b0
        · rw [hj] at hu ⊢
          obtain rfl := Option.some.inj (a1.symm.trans hu)
          simp only [World.cell?, hg]
          rw [← Nat.add_assoc]
          exact b1
      have hr := run_append_grow (P := P) w t ty e i z ht hi hz ⟨g, off, none⟩ Q.length cap (pvals Q) (by rw [pvals_len, hsize]) holds A 1 c [.int .i64 x, .int .i64 y] hlen2 hnews (by omega) (by omega) (growslice_fits (by omega) (by rw [hby]; omega))
      exact ⟨_, _, hr, fin cap _ (by rw [size_zeroCells, hzs]), kpn _ _, .inr rfl⟩
end
end Go.Proofs.Ytogbanlfihabpaa
/-
  Contracts of (*code.web).from's find, (*code.web).mark.
-/
/-
  Contracts of code.look.
-/
/-
  A web in memory.
-/
namespace Go.Proofs.Ytogbanlfihabpaa
open Go.RowKit
set_option linter.unusedVariables false

theorem Row.type {w : World} {e : TypeId} {size n : Nat} {v : Value} {xs : List Value} (h : Row w e size v n xs) : ∀ b ∈ ownB v, ∃ cur, w.heap[b]? = some (.cells cur e (0, 0)) := by
  rcases h.2 with ⟨rfl, _⟩ | ⟨g, cap, cur, rfl, hh, _⟩
  · simp [ownB]
  · intro b hb; simp [ownB] at hb; subst hb; exact ⟨cur, hh⟩
section
variable {X X' : World} {P f : Nat} {G : Nat → Nat} {A : Option Addr} {n ca : Nat} {pn : Int → Nat} {cs : List Int} {fr : Nat} {vC vD : Value} {m : Nat} {Lk : Pt → Pt}
theorem rowP_len (pn : Int → Nat) (cs : List Int) (Lk : Pt → Pt) (j : Int) : (rowP pn cs Lk j).length = pn (cs.getD j.toNat 0) := by simp [rowP]
theorem rowP_at {pn : Int → Nat} {cs : List Int} {c s : Nat} (Lk : Pt → Pt) (hs : s < pn (cs.getD c 0)) : (rowP pn cs Lk (c : Int)).getD s default = Lk ((c : Int), (s : Int)) := by
  have hs' : s < pn ((cs[c]?).getD 0) := by rwa [List.getD_eq_getElem?_getD] at hs
  simp [rowP, List.getD_eq_getElem?_getD, hs']
end
end Go.Proofs.Ytogbanlfihabpaa
namespace Go.Proofs.Ytogbanlfihabpaa
open Go.RowKit
attribute [local go_sem] cell_set
set_option maxRecDepth 100000
set_option linter.unusedVariables false

section
variable (Bw P f : Nat) (G : Nat → Nat) (A : Option Addr) (n ca : Nat) (pn : Int → Nat) (cs : List Int) (fr : Nat) (vC vD : Value) (Lk : Pt → Pt) (w : World)
end

/-! ### The web is built -/
abbrev L0 : Pt → Pt := fun _ => (0, 0)
section
variable {X X' : World} {P f : Nat} {G : Nat → Nat} {A : Option Addr} {n ca : Nat} {pn : Int → Nat} {cs : List Int} {fr : Nat} {vC vD : Value} {m : Nat} {Lk : Pt → Pt}
end
end Go.Proofs.Ytogbanlfihabpaa
namespace Go.Proofs.Ytogbanlfihabpaa
open Go.RowKit
attribute [local go_sem] cell_set
set_option maxRecDepth 100000
set_option linter.unusedVariables false

section
variable {w0 X X' : World} {Bw Bl P f : Nat} {G : Nat → Nat} {A : Option Addr} {n ca : Nat} {pn : Int → Nat} {cs : List Int} {fr : Nat} {vC vD v v' : Value} {Lk : Pt → Pt} {l l' : List Int} {m : Nat}
end
section
variable (w0 : World) (Bw Bl P f : Nat) (G : Nat → Nat) (A : Option Addr) (n ca : Nat) (pn : Int → Nat) (cs : List Int) (fr : Nat) (vC vD v : Value) (Lk : Pt → Pt) (l : List Int) (w : World)
end
/-! ### Plain: the code, grown step by step -/
structure CodeS (row : Int → List Pt) (cs fd : List Int) (q : Pt) (l : List Int) (CK : Nat → List Int) (CJ : Nat → Nat → List Int) : Prop where
  k0 : CK 0 = [markN0 fd q]
  j0 : ∀ j, CJ j 0 = CK j ++ [cs.getD (l.getD j 0).toNat 0]
  js : ∀ j s, s < (row (l.getD j 0)).length → CJ j (s + 1) = CJ j s ++ [markN0 fd ((row (l.getD j 0)).getD s default)]
  k1 : ∀ j, j < l.length → CK (j + 1) = CJ j (row (l.getD j 0)).length
  kl : ∀ j, j ≤ l.length → (CK j).length ≤ 1 + 8 * j
  jl : ∀ j s, j ≤ l.length → (CJ j s).length ≤ 2 + 8 * j + s
  all : CK l.length = codeK cs row fd q l
theorem isPt_lt {pn : Int → Nat} {cs : List Int} {fr : Nat} {p : Pt} (hp : isPt pn cs fr p = true) : p.1 < cs.length := by
  unfold isPt at hp
  split at hp
  · omega
  · rw [decide_eq_true_eq] at hp; omega
theorem isPt_cell {pn : Int → Nat} {cs : List Int} {c s : Nat} (fr : Nat) (hc : c < cs.length) (hs : s < pn (cs.getD c 0)) : isPt pn cs fr ((c : Int), (s : Int)) = true := by
  unfold isPt
  rw [if_neg (by dsimp only; omega), decide_eq_true_eq]
  simp only [Int.toNat_natCast]
  omega
theorem isPt_free {pn : Int → Nat} {cs : List Int} {fr : Nat} {p : Pt} (hp : isPt pn cs fr p = true) (h : p.1 < 0) : p.1 = -1 ∧ 0 ≤ p.2 ∧ p.2 < fr := by
  unfold isPt at hp
  split at hp
  · rw [decide_eq_true_eq] at hp; omega
  · rw [decide_eq_true_eq] at hp; omega
section
variable (P f : Nat) (G : Nat → Nat) (A : Option Addr) (n ca : Nat) (pn : Int → Nat) (cs : List Int) (fr : Nat) (vC vD : Value) (Lk : Pt → Pt) (w : World)
end
end Go.Proofs.Ytogbanlfihabpaa
/-
  Contract of code.From, of a port of a net that may be.
-/
/-
  Contract of code.look.
-/
namespace Go.Proofs.Ytogbanlfihabpaa
open Go.RowKit
attribute [local go_sem] cell_set
set_option maxRecDepth 100000
set_option linter.unusedVariables false

theorem pnL_in {L : List (ByteArray × Int)} (hs : SigOk L) {a : Int} (h0 : 0 ≤ a) (h1 : a < L.length) : (pnL L a : Int) = agA L a.toNat + 1 := by
  have h2 := hs.ar a.toNat (by omega)
  rw [← pnL_eq hs, portsN, if_neg (by omega)]
theorem heapW3 (X : World) (a b c : Obj) : ((((X.alloc a).alloc b).alloc c).drew).heap[X.heap.size]? = some a ∧ ((((X.alloc a).alloc b).alloc c).drew).heap[X.heap.size + 1]? = some b ∧ ((((X.alloc a).alloc b).alloc c).drew).heap[X.heap.size + 1 + 1]? = some c := by
  refine ⟨?_, ?_, ?_⟩
  · exact (Below.heap_alloc _ _ _ (by simp; omega)).trans ((Below.heap_alloc _ _ _ (by simp)).trans (heap_alloc_new X _))
  · refine (Below.heap_alloc _ _ _ (by simp)).trans ?_
    have := heap_alloc_new (X.alloc a) b
    rwa [World.size_alloc] at this
  · have := heap_alloc_new ((X.alloc a).alloc b) c
    rw [World.size_alloc, World.size_alloc] at this
    exact this
section
variable {w0 X X' : World} {Bw P f : Nat} {G : Nat → Nat} {A : Option Addr} {n ca : Nat} {pn : Int → Nat} {cs : List Int} {fr : Nat} {vC vD : Value} {Lk Lk' : Pt → Pt}
end
section
variable (A : Option Addr) (n cap : Nat) (L : List (ByteArray × Int)) (VA VB : Option Addr) (ca cb : Nat) (cells : List Int) (free : Nat) (W : List (Pt × Pt)) (w : World)
end
end Go.Proofs.Ytogbanlfihabpaa
namespace Go.Proofs.Ytogbanlfihabpaa
open Go.RowKit
attribute [local go_sem] cell_set
set_option maxRecDepth 100000
set_option linter.unusedVariables false

/-- What a port is linked to, no cell where it is linked to nothing. -/
def lkM (W : List (Pt × Pt)) (p : Pt) : Pt := (lnk W p).getD (-1, 0)
theorem lkM_eq {pn : Int → Nat} {cells : List Int} {free : Nat} {W : List (Pt × Pt)} (h : NetOk pn cells free W) {p : Pt} (hp : isPt pn cells free p = true) : lkT (lnk W) p = lkM W p ∧ isPt pn cells free (lkM W p) = true := by
  obtain ⟨q, h1, h2⟩ := h.lnk hp
  simp [lkT, lkM, h1, h2]
theorem lkM_is {pn : Int → Nat} {cells : List Int} {free : Nat} {W : List (Pt × Pt)} (h : NetOk pn cells free W) (p : Pt) : lkM W p = (-1, 0) ∨ isPt pn cells free (lkM W p) = true := by
  unfold lkM
  cases e : lnk W p with
  | none => exact .inl rfl
  | some q => exact .inr (h.is q (lnk_mem (lnk_sym h.nodup e)))
theorem lkM_lt {pn : Int → Nat} {cells : List Int} {free : Nat} {W : List (Pt × Pt)} (h : NetOk pn cells free W) (p : Pt) : (lkM W p).1 < cells.length := by
  rcases lkM_is h p with e | e
  · rw [e]; show (-1 : Int) < cells.length; omega
  · exact isPt_lt e
theorem startP_is {pn : Int → Nat} {cells : List Int} {free : Nat} {W : List (Pt × Pt)} (h : NetOk pn cells free W) {p : Pt} (hp : isPt pn cells free p = true) : isPt pn cells free (startP (lkM W) p) = true := by
  unfold startP
  split
  · exact (lkM_eq h hp).2
  · exact hp
def PtBx (X : World) (b : Nat) (p : Pt) : Prop := X.heap[b]? = some (.cells #[.int .i64 p.1, .int .i64 p.2] 41 (0, 0))
theorem PtBx.cells {X : World} {b : Nat} {p : Pt} (h : PtBx X b p) : X.cell? ⟨b, 0, none⟩ = some (.int .i64 p.1) ∧ X.cell? ⟨b, 1, none⟩ = some (.int .i64 p.2) ∧ b < X.heap.size := by
  have h' : X.heap[b]? = some (.cells #[.int .i64 p.1, .int .i64 p.2] 41 (0, 0)) := h
  refine ⟨?_, ?_, heap_lt h'⟩ <;> simp [World.cell?, h']
theorem PtBx.below {X X' : World} {b : Nat} {p : Pt} (h : PtBx X b p) (hb : Below X.heap.size X X') : PtBx X' b p := (hb.block b (heap_lt h)).trans h
section
variable (A : Option Addr) (n cap : Nat) (L : List (ByteArray × Int)) (VA VB : Option Addr) (ca cb : Nat) (cells : List Int) (free : Int) (W : List (Pt × Pt)) (w : World)
end
end Go.Proofs.Ytogbanlfihabpaa
/-
  Plain: the partners so far, as two lists; what skeinlaw12.alike asks of them.
-/
namespace Go.Proofs.Ytogbanlfihabpaa
set_option linter.unusedVariables false

structure Par (n m : Nat) (dA dB : List Int) : Prop where
  na : dA.Nodup
  nb : dB.Nodup
  len : dA.length = dB.length
  la : ∀ x ∈ dA, 0 ≤ x ∧ x < n
  lb : ∀ x ∈ dB, 0 ≤ x ∧ x < m
theorem Par.nil (n m : Nat) : Par n m [] [] := ⟨List.nodup_nil, List.nodup_nil, rfl, by simp, by simp⟩
theorem Par.cap {n m : Nat} {dA dB : List Int} (h : Par n m dA dB) : dA.length ≤ n := nodup_lt h.na h.la
theorem Par.add {n m : Nat} {dA dB : List Int} (h : Par n m dA dB) {c d : Nat} (hc : c < n) (hd : d < m) (hm : (c : Int) ∉ dA) (hm2 : (d : Int) ∉ dB) : Par n m (dA ++ [(c : Int)]) (dB ++ [(d : Int)]) := by
  refine ⟨List.nodup_append.2 ⟨h.na, by simp, fun a ha b hb => ?_⟩, List.nodup_append.2 ⟨h.nb, by simp, fun a ha b hb => ?_⟩, by simp [h.len], fun x hx => ?_, fun x hx => ?_⟩
  · rw [List.mem_singleton] at hb; subst hb; exact fun e => hm (e ▸ ha)
  · rw [List.mem_singleton] at hb; subst hb; exact fun e => hm2 (e ▸ ha)
  · rcases List.mem_append.1 hx with hx | hx
    · exact h.la x hx
    · rw [List.mem_singleton] at hx; subst hx; omega
  · rcases List.mem_append.1 hx with hx | hx
    · exact h.lb x hx
    · rw [List.mem_singleton] at hx; subst hx; omega
/-! ### The walk's steps -/
section
variable {labA labB : Int → Int} {rowA rowB : Int → List Pt} {f : Nat} {p q : Pt} {Q : List (Pt × Pt)} {dA dB : List Int}
end
end Go.Proofs.Ytogbanlfihabpaa
/-
  Contract of skeinref11.Look, of a net that may be.
-/
/-
  Contracts of skeinref03: Links.
-/
namespace Go.Proofs.Ytogbanlfihabpaa
open Go.RowKit
attribute [local go_sem] cell_set
set_option maxRecDepth 100000
set_option linter.unusedVariables false

end Go.Proofs.Ytogbanlfihabpaa
namespace Go.Proofs.Ytogbanlfihabpaa
open Go.RowKit
attribute [local go_sem] cell_set
set_option maxRecDepth 100000
set_option linter.unusedVariables false

theorem NBox.drew {X : World} {b n1 ca n2 cb : Nat} {VA VB : Option Addr} {f : Int} (h : NBox X b VA n1 ca f VB n2 cb) : NBox X.drew b VA n1 ca f VB n2 cb := ⟨h.lt, h.c0, h.c1, h.c2⟩
section
variable (A : Option Addr) (n cap : Nat) (L : List (ByteArray × Int)) (VA VB : Option Addr) (ca cb : Nat) (cells : List Int) (f : Nat) (W : List (Pt × Pt)) (w : World)
end
end Go.Proofs.Ytogbanlfihabpaa
namespace Go.Proofs.Ytogbanlfihabpaa
open Go.RowKit
set_option maxRecDepth 100000
set_option linter.unusedVariables false

section
variable {pn : Int → Nat} {cs : List Int} {f : Nat} {W : List (Pt × Pt)} {V1 V2 V3 : Option Addr} {c1 c2 c3 M B : Nat} {X X' : World}
variable {b o : Nat}
end
section
variable {pn : Int → Nat} {csA csB : List Int} {fA fB : Nat} {Y X X' : World} {Q : List (Pt × Pt)} {dA dB : List Int} {v v' : Value}
end
section
variable {P : Program} {w : World} {o : Oper} {a : Act} {K' : Act → World → Prop} {Q' : Exit → Act → World → Prop}
end
end Go.Proofs.Ytogbanlfihabpaa
