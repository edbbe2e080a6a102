/-
  Contracts of skeinlaw09.much and skeinlaw09.works.
-/
import Derived.Test.YthbobooiedcofaaNetPlainK
import Derived.Test.YthbobooiedcofaaRef03C
import Derived.Test.YthbobooiedcofaaLoadC
import Derived.Test.YthbobooiedcofaaStoreE
import Derived.Test.YthbobooiedcofaaRef02
import Derived.Test.YthbobooiedcofaaEqN
/-
  Plain: what was loaded is a net: its cells, where its ports lead.
-/
/-
  Plain: nets that may be, by what they are; rules turned round, and back; left sides.
-/
namespace Go.Proofs.Ythbobooiedcofaa
open Go.RowKit
set_option linter.unusedVariables false

theorem netChk_of {pn : Int → Nat} {most : Nat} {cS : Int × Int} {cells : List Int} {free : Nat} {W : List (Pt × Pt)} (h : cS.1 = 0) (h1 : cells.length ≤ 4096) (h2 : free ≤ 64) (hc : ∀ j, j < cells.length → 0 ≤ cells.getD j 0 ∧ cells.getD j 0 < most)
    (hok : NetOk pn cells free W) : netChk pn most cS cells free W = (0, 0) := by
  refine nc_ok h h1 (by omega) (by omega) hc (fun j hj => ?_) (fun j hj => ?_)
  · rw [wBad_at hj]
    have hm := ends_at hj
    have hn := fun p hp => ends_new hok.nodup hj (p := p) hp
    have hne : (W.getD j default).1 ≠ (W.getD j default).2 := by
      have : W.getD j default = W[j] := by simp [List.getD_eq_getElem?_getD, hj]
      rw [this]
      exact pair_ne hok.nodup (List.getElem_mem hj)
    unfold wErr
    rw [show ((free : Int)).toNat = free from rfl, if_neg (by rw [hok.is _ hm.1, hok.is _ hm.2]; simp), if_neg]
    rintro (h | h | h)
    · exact (hn _ h).1 rfl
    · exact (hn _ h).2 rfl
    · exact hne h
  · refine hok.all _ ?_
    rw [show ((free : Int)).toNat = free from rfl] at hj ⊢
    have : (allPs pn cells free).getD j (0, 0) = (allPs pn cells free)[j] := by simp [List.getD_eq_getElem?_getD, hj]
    rw [this]
    exact List.getElem_mem hj
def idsN (n : Nat) : List Int := (List.range n).map fun (i : Nat) => (i : Int)
def flipN (a b : Nat) (k : Nat) : List Int := (List.range k).map fun (i : Nat) => if i < a then ((b + i : Nat) : Int) else ((i - a : Nat) : Int)
theorem idsN_len (n : Nat) : (idsN n).length = n := by simp [idsN]
theorem flipN_len (a b k : Nat) : (flipN a b k).length = k := by simp [flipN]
theorem idsN_succ (n : Nat) : idsN (n + 1) = idsN n ++ [(n : Int)] := by simp [idsN, List.range_succ]
theorem flipN_succ (a b n : Nat) : flipN a b (n + 1) = flipN a b n ++ [if n < a then ((b + n : Nat) : Int) else ((n - a : Nat) : Int)] := by simp [flipN, List.range_succ]
theorem idsN_at {n i : Nat} (h : i < n) : (idsN n).getD i 0 = i := by simp [idsN, List.getD_eq_getElem?_getD, h]
theorem flipN_at {a b k i : Nat} (h : i < k) : (flipN a b k).getD i 0 = if i < a then ((b + i : Nat) : Int) else ((i - a : Nat) : Int) := by simp [flipN, List.getD_eq_getElem?_getD, h]
theorem idsN_each (n : Nat) : eachN (idsN n) n := by
  refine ⟨idsN_len n, List.pairwise_map.2 (List.nodup_range.imp fun h e => h (by omega)), fun x hx => ?_⟩
  simp only [idsN, List.mem_map, List.mem_range] at hx
  obtain ⟨i, hi, rfl⟩ := hx
  omega
theorem flipN_each (a b : Nat) : eachN (flipN a b (a + b)) (a + b) := by
  refine ⟨flipN_len a b _, List.pairwise_map.2 ?_, fun x hx => ?_⟩
  · refine (List.nodup_range (n := a + b)).imp_of_mem fun hx hy h e => h ?_
    have hx := List.mem_range.1 hx
    have hy := List.mem_range.1 hy
    split at e <;> split at e <;> omega
  · simp only [flipN, List.mem_map, List.mem_range] at hx
    obtain ⟨i, hi, rfl⟩ := hx
    split <;> omega
theorem outK_ids (cells : List Int) : outK cells (idsN cells.length) cells.length = cells := by
  have hl := outK_len cells (idsN cells.length) cells.length
  refine List.ext_getElem hl fun i h1 h2 => ?_
  have h := outK_at (idsN_each cells.length) (Nat.le_refl _) i h2
  rw [idsN_at h2] at h
  rw [show ((i : Int)).toNat = i from rfl] at h
  simpa [List.getD_eq_getElem?_getD, h1, h2] using h
theorem moves_flip (cells : List Int) (a b : Nat) : Moves cells cells (idsN cells.length) (flipN a b (a + b)) (a + b) := by
  have := moves_of (cells := cells) (idsN_each cells.length) (flipN_each a b)
  rwa [outK_ids] at this
theorem flip_ok {pn : Int → Nat} {cells : List Int} {W : List (Pt × Pt)} {a b : Nat} (h : NetOk pn cells (a + b) W) : NetOk pn cells (a + b) (tidyW (allPs pn cells (a + b)) (moveW (idsN cells.length) (flipN a b (a + b)) W)) :=
  (h.move (moves_flip cells a b)).tidy
theorem flip_back {pn : Int → Nat} {cells : List Int} {W : List (Pt × Pt)} {a b : Nat} (h : NetOk pn cells (a + b) W) :
    tidyW (allPs pn cells (a + b)) (moveW (idsN cells.length) (flipN b a (a + b)) (tidyW (allPs pn cells (a + b)) (moveW (idsN cells.length) (flipN a b (a + b)) W))) = tidyW (allPs pn cells (a + b)) W := by
  have hm' := moves_flip cells b a
  rw [Nat.add_comm b a] at hm'
  refine h.there_back (moves_flip cells a b) hm' fun p hp => ?_
  obtain ⟨c, s⟩ := p
  unfold isPt at hp
  unfold toPt
  by_cases hc : c = -1
  · subst hc
    simp only [if_true, decide_eq_true_eq] at hp
    obtain ⟨k, rfl⟩ := Int.eq_ofNat_of_zero_le hp.1
    have hk : k < a + b := by omega
    simp only [show ((-1 : Int) < 0) = True by simp, if_true]
    rw [show ((k : Int)).toNat = k from rfl, flipN_at hk]
    by_cases hka : k < a
    · rw [if_pos hka, show (((b + k : Nat) : Int)).toNat = b + k from rfl, flipN_at (by omega), if_neg (by omega)]
      simp only [Prod.mk.injEq, true_and]; omega
    · rw [if_neg hka, show (((k - a : Nat) : Int)).toNat = k - a from rfl, flipN_at (by omega), if_pos (by omega)]
      simp only [Prod.mk.injEq, true_and]; omega
  · simp only [hc, if_false, decide_eq_true_eq] at hp
    obtain ⟨k, rfl⟩ := Int.eq_ofNat_of_zero_le hp.1
    have hk : k < cells.length := by omega
    have hn : ¬ ((k : Int) < 0) := by omega
    simp only [hn, if_false]
    rw [show ((k : Int)).toNat = k from rfl, idsN_at hk]
    simp only [hn, if_false]
    rw [show ((k : Int)).toNat = k from rfl, idsN_at hk]
/-! ### Left sides -/
def leftP (a k : Nat) : Pt := if k < a then (0, ((k + 1 : Nat) : Int)) else (1, ((k + 1 - a : Nat) : Int))
def leftK (a k : Nat) : List (Pt × Pt) := ((0, 0), (1, 0)) :: (List.range k).map fun (i : Nat) => (((-1 : Int), (i : Int)), leftP a i)
theorem leftK_succ (a k : Nat) : leftK a (k + 1) = leftK a k ++ [((-1, (k : Int)), leftP a k)] := by simp [leftK, List.range_succ]
theorem leftK_len (a k : Nat) : (leftK a k).length = k + 1 := by simp [leftK]
def okB (pn : Int → Nat) (cells : List Int) (f : Nat) (W : List (Pt × Pt)) : Bool := (ends W).all (isPt pn cells f) && decide (ends W).Nodup && (allPs pn cells f).all fun p => decide (p ∈ ends W)
theorem okB_ok {pn : Int → Nat} {cells : List Int} {f : Nat} {W : List (Pt × Pt)} (h : okB pn cells f W = true) : NetOk pn cells f W := by
  unfold okB at h
  simp only [Bool.and_eq_true, List.all_eq_true, decide_eq_true_eq] at h
  exact ⟨h.1.1, h.1.2, h.2⟩
theorem left_all : ((List.range 7).all fun a => (List.range 7).all fun b => okB (fun x => if x = 0 then a + 1 else b + 1) [0, 1] (a + b) (leftK a (a + b))) = true := by decide +kernel
theorem left_ok {pn : Int → Nat} {x y : Int} {a b : Nat} (hx : pn x = a + 1) (hy : pn y = b + 1) (ha : a ≤ 6) (hb : b ≤ 6) : NetOk pn [x, y] (a + b) (leftK a (a + b)) := by
  have h0 := left_all
  rw [List.all_eq_true] at h0
  have h1 := h0 a (List.mem_range.2 (by omega))
  rw [List.all_eq_true] at h1
  have h := okB_ok (h1 b (List.mem_range.2 (by omega)))
  have e1 : ∀ p, isPt pn [x, y] (a + b) p = isPt (fun x => if x = 0 then a + 1 else b + 1) [0, 1] (a + b) p := fun p => by
    obtain ⟨c, s⟩ := p
    unfold isPt
    by_cases hc : c = -1
    · simp [hc]
    · simp only [hc, if_false]
      by_cases hc2 : 0 ≤ c ∧ c < 2
      · rcases (by omega : c = 0 ∨ c = 1) with rfl | rfl
        · simp [hx]
        · simp [hy]
      · have hc3 : ¬ (0 ≤ c ∧ c < ((2 : Nat) : Int)) := hc2
        exact decide_eq_decide.2 ⟨fun h => absurd ⟨h.1, h.2.1⟩ hc3, fun h => absurd ⟨h.1, h.2.1⟩ hc3⟩
  have e2 : allPs pn [x, y] (a + b) = allPs (fun x => if x = 0 then a + 1 else b + 1) [0, 1] (a + b) := by simp [allPs, cellPs, hx, hy]
  exact ⟨fun p hp => (e1 p).trans (h.is p hp), h.nodup, fun p hp => h.all p (e2 ▸ hp)⟩
end Go.Proofs.Ythbobooiedcofaa
namespace Go.Proofs.Ythbobooiedcofaa
open Go.RowKit
set_option maxRecDepth 100000
set_option linter.unusedVariables false

theorem tookA_ok {m : Nat} {ar : Int → Int} {cells : List Int} (h1 : 1 ≤ m) (h2 : m ≤ 4096) (hl : cells.length ≤ m) (hb : ∀ a ∈ cells, ¬ Ars.bad a (ar a)) : (tookA m ar cells).Ok := by
  have key : ∀ k, k ≤ cells.length → (tookA m ar (cells.take k)).Ok := by
    intro k
    induction k with
    | zero => intro _; rw [List.take_zero, tookA_nil]; exact Ars.Ok.empty h1 h2
    | succ k ih =>
      intro hk
      have e : cells.take (k + 1) = cells.take k ++ [cells[k]] := by rw [List.take_add_one, List.getElem?_eq_getElem hk]; rfl
      have := tookA_take (most := m) (ar := ar) (cells := cells.take k) (a := cells[k]) (by simp; omega) (hb _ (List.getElem_mem hk))
      rw [e, ← this.2.2]
      exact (ih (by omega)).take _ _
  have := key cells.length (Nat.le_refl _)
  rwa [List.take_length] at this
theorem new_wV {m f : Nat} {ar : Int → Int} {cells : List Int} {p : Pt} (h : (Wir.new (tookA m ar cells) f).wE p = 0) : (Wir.new (tookA m ar cells) f).wV p = 4294967295 := by
  unfold Wir.wE at h
  unfold Wir.wV
  by_cases hp : p.1 = -1
  · rw [if_pos hp] at h ⊢
    by_cases hs : p.2 < 0 ∨ ((Wir.new (tookA m ar cells) f).P.length : Int) ≤ p.2
    · rw [if_pos hs] at h; exact absurd h (by decide)
    · rw [if_neg hs]
      simp only [Wir.new, List.length_replicate] at hs ⊢
      rw [List.getD_eq_getElem?_getD, List.getElem?_replicate, if_pos (by omega)]; rfl
  · rw [if_neg hp] at h ⊢
    have hs : (tookA m ar cells).slotE p.1 p.2 = 0 := by
      by_cases hs : (Wir.new (tookA m ar cells) f).A.slotE p.1 p.2 = 0
      · exact hs
      · rw [if_neg hs] at h; exact absurd h (by decide)
    obtain ⟨ag, ws, hc, h0, h1⟩ := Ars.slot_ok hs
    have hv := (Ars.slot_of hc h0 h1).2
    rw [tookA_cell] at hc
    show (tookA m ar cells).getV p.1 p.2 = _
    rw [hv]
    by_cases hb : 0 ≤ p.1 ∧ p.1 < cells.length
    · rw [if_pos hb] at hc
      simp only [Ars.fresh, Option.some.injEq, Prod.mk.injEq] at hc
      obtain ⟨_, rfl⟩ := hc
      rw [List.length_replicate] at h1
      rw [List.getD_eq_getElem?_getD, List.getElem?_replicate, if_pos (by omega)]; rfl
    · rw [if_neg hb] at hc; cases hc
/-- Of a net that may be, loaded. -/
theorem loaded {L : List (ByteArray × Int)} {cells : List Int} {f m : Nat} {T : List (Pt × Pt)} (hs : SigOk L) (hag : ∀ j, j < cells.length → 0 ≤ cells.getD j 0 ∧ cells.getD j 0 < L.length) (hok : NetOk (pnL L) cells f T) (h1 : 1 ≤ m) (h2 : m ≤ 4096) (hl : cells.length ≤ m) (hf : f ≤ 64) :
    LN (pnL L) cells f ((Wir.new (tookA m (arL L) cells) f).linkAll T) ∧ Wir.Lk (Wir.new (tookA m (arL L) cells) f) T ((Wir.new (tookA m (arL L) cells) f).linkAll T) ∧ (∀ p, (Wir.new (tookA m (arL L) cells) f).wE p = 0 ↔ isPt (pnL L) cells f p = true) := by
  have hmem : ∀ a ∈ cells, (arL L a).toNat + 1 = pnL L a ∧ ¬ Ars.bad a (arL L a) := fun a ha => by
    obtain ⟨j, hj, rfl⟩ := List.mem_iff_getElem.1 ha
    have := hag j hj
    rw [List.getD_eq_getElem?_getD, List.getElem?_eq_getElem hj] at this
    obtain ⟨q1, _, _, q4⟩ := arL_pn hs this.1 this.2
    exact ⟨q1, q4⟩
  have hA := tookA_ok h1 h2 hl fun a ha => (hmem a ha).2
  have hw : ∀ p, (Wir.new (tookA m (arL L) cells) f).wE p = 0 ↔ isPt (pnL L) cells f p = true := fun p => Wir.took_wE (by simp) (fun a ha => (hmem a ha).1) p
  have hlk := (Wir.link_all hok (Wir.Ok.new hA hf) hw (fun p hp => new_wV hp) (Nat.le_refl T.length)).1
  rw [List.take_length] at hlk
  exact ⟨(LN.new fun a ha => (hmem a ha).1).linkAll, hlk, hw⟩
theorem loaded_leads {pn : Int → Nat} {cells : List Int} {f : Nat} {T : List (Pt × Pt)} {S0 S : Wir} (hok : NetOk pn cells f T) (h : Wir.Lk S0 T S) (hw : ∀ p, S0.wE p = 0 ↔ isPt pn cells f p = true) : Leads S T (allPs pn cells f) := fun p hp => by
  have hi := allPs_mem.1 hp
  obtain ⟨q, l1, l2, _, _, l3, l4⟩ := h.to hok hw hi
  obtain ⟨r, m1, m2, _, _, m3, m4⟩ := h.to hok hw l2
  have hsym := lnk_sym hok.nodup l1
  rw [hsym] at m1
  injection m1 with m1
  subst m1
  exact ⟨q, l1, allPs_mem.2 l2, l3, l4, m3, m4, fun e => lnk_irr hok.nodup p (e ▸ l1)⟩
end Go.Proofs.Ythbobooiedcofaa
/-
  The small net of skeinlaw03.works: as data, and in memory.
-/
namespace Go.Proofs.Ythbobooiedcofaa
open Go.RowKit
attribute [local go_sem] cell_set
set_option maxRecDepth 100000
set_option linter.unusedVariables false

def L3 : List (ByteArray × Int) := [(⟨#[90]⟩, 0), (⟨#[83]⟩, 1)]
def W3 : List (Pt × Pt) := [((1, 0), (0, 0)), ((0, 1), (-1, 0))]
theorem chk3 : chk L3 = (0, 0) := by decide +kernel
theorem net3 : (netChk (pnL L3) L3.length (chk L3) [1, 0] 1 W3).1 = 0 := by decide +kernel
theorem tidy3 : tidyW (allPs (pnL L3) [1, 0] 1) W3 = [((-1, 0), (0, 1)), ((0, 0), (1, 0))] := by decide +kernel
theorem ag_lit {w : World} {b : Nat} {c : Nat × Nat} (h : w.heap[b]? = some (.cells #[.string ⟨#[90]⟩, .int .i64 0, .string ⟨#[83]⟩, .int .i64 1] 89 c)) : AgRd w (some ⟨b, 0, none⟩) L3 := fun i hi => by
  have hi2 : i = 0 ∨ i = 1 := by simp [L3] at hi; omega
  refine ⟨b, 0, rfl, heap_lt h, ?_, ?_⟩ <;> rcases hi2 with rfl | rfl <;> simp [World.cell?, h, L3, agN, agA]
theorem ints_lit {w : World} {b : Nat} {c : Nat × Nat} (h : w.heap[b]? = some (.cells #[.int .i64 1, .int .i64 0] 3 c)) : IntsRd w (some ⟨b, 0, none⟩) [1, 0] := fun i hi => by
  have hi2 : i = 0 ∨ i = 1 := by simp at hi; omega
  refine ⟨b, 0, rfl, heap_lt h, ?_⟩
  rcases hi2 with rfl | rfl <;> simp [World.cell?, h]
theorem wires_lit {w : World} {b : Nat} {c : Nat × Nat} (h : w.heap[b]? = some (.cells #[.int .i64 1, .int .i64 0, .int .i64 0, .int .i64 0, .int .i64 0, .int .i64 1, .int .i64 (-1), .int .i64 0] 55 c)) : WrRd w (some ⟨b, 0, none⟩) W3 := fun i hi => by
  have hi2 : i = 0 ∨ i = 1 := by simp [W3] at hi; omega
  refine ⟨b, 0, rfl, heap_lt h, ?_, ?_, ?_, ?_⟩ <;> rcases hi2 with rfl | rfl <;> simp [World.cell?, h, W3]

theorem heap4 (w : World) (a b c d : Obj) : ((((w.alloc a).alloc b).alloc c).alloc d).heap[w.heap.size]? = some a ∧ ((((w.alloc a).alloc b).alloc c).alloc d).heap[w.heap.size + 1]? = some b ∧ ((((w.alloc a).alloc b).alloc c).alloc d).heap[w.heap.size + 2]? = some c ∧ ((((w.alloc a).alloc b).alloc c).alloc d).heap[w.heap.size + 3]? = some d := by
  have e1 := heap_alloc_new w a
  have e2 := heap_alloc_new (w.alloc a) b
  have e3 := heap_alloc_new ((w.alloc a).alloc b) c
  have e4 := heap_alloc_new (((w.alloc a).alloc b).alloc c) d
  simp only [World.size_alloc, Nat.add_assoc, Nat.reduceAdd] at e2 e3 e4
  refine ⟨?_, ?_, ?_, e4⟩
  · exact (Below.heap_alloc _ _ _ (by simp <;> omega)).trans ((Below.heap_alloc _ _ _ (by simp <;> omega)).trans ((Below.heap_alloc _ _ _ (by simp <;> omega)).trans e1))
  · exact (Below.heap_alloc _ _ _ (by simp <;> omega)).trans ((Below.heap_alloc _ _ _ (by simp <;> omega)).trans e2)
  · exact (Below.heap_alloc _ _ _ (by simp <;> omega)).trans e3
/-- The net of 'works' lies in memory. -/
def Lit3 (b : Nat) (X : World) : Prop := X.heap[b]? = some (.cells #[.string ⟨#[90]⟩, .int .i64 0, .string ⟨#[83]⟩, .int .i64 1] 89 (0, 0)) ∧ X.heap[b + 1]? = some (.cells #[.int .i64 1, .int .i64 0] 3 (0, 0)) ∧
  X.heap[b + 2]? = some (.cells #[.int .i64 1, .int .i64 0, .int .i64 0, .int .i64 0, .int .i64 0, .int .i64 1, .int .i64 (-1), .int .i64 0] 55 (0, 0)) ∧ X.heap[b + 3]? = some (.cells #[.slice (some ⟨b + 1, 0, none⟩) 2 2, .int .i64 1, .slice (some ⟨b + 2, 0, none⟩) 2 2] 67 (0, 0))
theorem Lit3.below {b : Nat} {X X' : World} (h : Lit3 b X) (hb : Below X.heap.size X X') : Lit3 b X' :=
  ⟨(hb.block _ (heap_lt h.1)).trans h.1, (hb.block _ (heap_lt h.2.1)).trans h.2.1, (hb.block _ (heap_lt h.2.2.1)).trans h.2.2.1, (hb.block _ (heap_lt h.2.2.2)).trans h.2.2.2⟩
end Go.Proofs.Ythbobooiedcofaa
/-
  Contract of skeinref00.SizeAgents.
-/
namespace Go.Proofs.Ythbobooiedcofaa
open Go.RowKit
attribute [local go_sem] cell_set
set_option maxRecDepth 100000
set_option linter.unusedVariables false

def SomeI (w : World) (e : Ending) (w' : World) : Prop := ∃ m : Int, e = .returned (.int .i64 m) ∧ w = w'
set_option maxHeartbeats 400000 in
theorem size_agents (A : Option Addr) (n cap : Nat) (L : List (ByteArray × Int)) (w : World) (hn : n = L.length) (hl : L.length ≤ maxLen) (HL : Hid (AgRd w A L)) :
    Calls Try.prog 45 #[.slice A n cap] w (SomeI w) := by
  subst hn
  unfold maxLen at hl
  go_enter Try.func45, Try.ntmps45
  go_wp2
  go_loop [3, 4] (fun t i => ∃ k : Nat, ∃ m : Int, i = .int .i64 k ∧ k ≤ L.length ∧ t = .int .i64 m) (fun _ i => L.length - (intOf i).toNat)
  case atStart => exact ⟨0, _, rfl, by omega, rfl⟩
  case round =>
    obtain ⟨k, m, rfl, hk, rfl⟩ := hrel
    by_cases hlt : k < L.length
    · by_cases hm : m ≤ 2147483647
      · obtain ⟨b, off, rfl, hb, e0, e1⟩ := HL.out k hlt
        clear e1
        generalize agN L k = s at e0
        go_wp2
        go_round
        case rel => exact ⟨k + 1, _, by go_num, by omega, rfl⟩
        case measure => simp [intOf]; omega
      · go_wp2
        go_ret
        exact ⟨_, rfl, rfl⟩
    · go_wp2
      go_ret
      exact ⟨_, rfl, rfl⟩

def SomeB (P : Bool → Prop) (w : World) (e : Ending) (w' : World) : Prop := ∃ r : Bool, e = .returned (.bool r) ∧ P r ∧ Below w.heap.size w w'
end Go.Proofs.Ythbobooiedcofaa
namespace Go.Proofs.Ythbobooiedcofaa
open Go.RowKit
attribute [local go_sem] cell_set
attribute [local go_sem high] run_eql_wire
set_option maxRecDepth 100000
set_option linter.unusedVariables false

set_option maxHeartbeats 400000 in
theorem much09 (A : Option Addr) (n cap : Nat) (L : List (ByteArray × Int)) (VA VB : Option Addr) (n1 n2 ca cb : Nat) (free : Int) (w : World) (hn : n = L.length) (hl : L.length ≤ maxLen) (HL : Hid (AgRd w A L)) (h1 : n1 ≤ maxLen) (h2 : n2 ≤ maxLen) :
    Calls Try.prog 27 #[.slice A n cap, .agg #[.slice VA n1 ca, .int .i64 free, .slice VB n2 cb]] w (SomeB (fun r => r = false → L.length ≤ 1024 ∧ n1 ≤ 8192 ∧ n2 ≤ 32768) w) := by
  subst hn
  have hbA : ∀ o : Obj, Below w.heap.size w (w.alloc o) := fun o => (Below.refl _ _).alloc (Nat.le_refl _) o
  unfold maxLen at hl h1 h2
  by_cases c1 : 1024 < L.length
  · go_enter Try.func27, Try.ntmps27
    go_wp2
    go_ret
    exact ⟨_, rfl, fun h => by simp at h, hbA _⟩
  · have HSz : Hid (∀ Z, Below w.heap.size w Z → Calls Try.prog 45 #[.slice A L.length cap] Z (SomeI Z)) := fun Z hz => size_agents A _ cap L Z rfl (by simp only [maxLen]; omega) (Lib.hid (HL.out.below hz))
    go_enter Try.func27, Try.ntmps27
    go_wp2_with fail
    refine (HSz.out _ (hbA _)).mono ?_
    rintro e w1 ⟨m, rfl, rfl⟩
    go_wp2_with fail
    refine (long_is m _).mono ?_
    rintro e w1 ⟨rfl, rfl⟩
    by_cases c2 : 2147483647 < m
    · have d2 : decide (2147483647 < m) = true := by simpa using c2
      rw [d2]
      go_wp2
      go_ret
      exact ⟨_, rfl, fun h => by simp at h, hbA _⟩
    · have d2 : decide (2147483647 < m) = false := by simpa using c2
      rw [d2]
      by_cases c3 : 8192 < n1
      · go_wp2
        go_ret
        exact ⟨_, rfl, fun h => by simp at h, hbA _⟩
      · go_wp2
        go_ret
        exact ⟨_, rfl, fun h => by simp at h; omega, hbA _⟩
/-- The net of skeinlaw09.works. -/
def W9 : List (Pt × Pt) := [((0, 1), (1, 0)), ((0, 0), (-1, 0))]
def T9 : List (Pt × Pt) := [((-1, 0), (0, 0)), ((0, 1), (1, 0))]
theorem net9 : (netChk (pnL L3) L3.length (chk L3) [1, 0] 1 W9).1 = 0 := by decide +kernel
theorem tidy9 : tidyW (allPs (pnL L3) [1, 0] 1) W9 = T9 := by decide +kernel
theorem tidy9b : tidyW (allPs (pnL L3) [1, 0] 1) T9 = T9 := by decide +kernel
theorem load9 : loadE L3 [1, 0] 1 W9 2 = 0 := by unfold loadE; rw [if_neg (by rw [net9]; decide), if_neg (by decide), if_neg (by decide)]
theorem wires9_lit {w : World} {b : Nat} {c : Nat × Nat} (h : w.heap[b]? = some (.cells #[.int .i64 0, .int .i64 1, .int .i64 1, .int .i64 0, .int .i64 0, .int .i64 0, .int .i64 (-1), .int .i64 0] 55 c)) : WrRd w (some ⟨b, 0, none⟩) W9 := fun i hi => by
  have hi2 : i = 0 ∨ i = 1 := by simp [W9] at hi; omega
  refine ⟨b, 0, rfl, heap_lt h, ?_, ?_, ?_, ?_⟩ <;> rcases hi2 with rfl | rfl <;> simp [World.cell?, h, W9]
def Lit9 (b : Nat) (X : World) : Prop := X.heap[b]? = some (.cells #[.string ⟨#[90]⟩, .int .i64 0, .string ⟨#[83]⟩, .int .i64 1] 89 (0, 0)) ∧ X.heap[b + 1]? = some (.cells #[.int .i64 1, .int .i64 0] 3 (0, 0)) ∧
  X.heap[b + 2]? = some (.cells #[.int .i64 0, .int .i64 1, .int .i64 1, .int .i64 0, .int .i64 0, .int .i64 0, .int .i64 (-1), .int .i64 0] 55 (0, 0)) ∧ X.heap[b + 3]? = some (.cells #[.slice (some ⟨b + 1, 0, none⟩) 2 2, .int .i64 1, .slice (some ⟨b + 2, 0, none⟩) 2 2] 67 (0, 0))
theorem Lit9.below {b : Nat} {X X' : World} (h : Lit9 b X) (hb : Below X.heap.size X X') : Lit9 b X' :=
  ⟨(hb.block _ (heap_lt h.1)).trans h.1, (hb.block _ (heap_lt h.2.1)).trans h.2.1, (hb.block _ (heap_lt h.2.2.1)).trans h.2.2.1, (hb.block _ (heap_lt h.2.2.2)).trans h.2.2.2⟩
/-- The wiring of skeinlaw09.works. -/
def S9 : Wir := (Wir.new (tookA 2 (arL L3) [1, 0]) 1).linkAll T9
theorem sig3 : SigOk L3 := chk_sig (by rw [chk3])
theorem ok9 : NetOk (pnL L3) [1, 0] 1 T9 := by
  have := (netChk_ok net9).2.2.2.2.2
  rw [← tidy9]
  exact NetOk.tidy this
theorem s9_is : LN (pnL L3) [1, 0] 1 S9 ∧ Leads S9 T9 (allPs (pnL L3) [1, 0] 1) := by
  obtain ⟨h1, h2, h3⟩ := loaded (L := L3) (cells := [1, 0]) (f := 1) (m := 2) (T := T9) sig3 (netChk_ok net9).2.2.2.2.1 ok9 (by decide) (by decide) (by decide) (by decide)
  exact ⟨h1, loaded_leads ok9 h2 h3⟩
theorem lit9_load {b : Nat} {X : World} (h : Lit9 b X) : Calls Try.prog 30 #[.slice (some ⟨b, 0, none⟩) 2 2, .agg #[.slice (some ⟨b + 1, 0, none⟩) 2 2, .int .i64 1, .slice (some ⟨b + 2, 0, none⟩) 2 2], .int .i64 2] X fun e w' => ∃ B A, e = .returned (.tuple #[.pointer (some ⟨B, 0, none⟩), .int .i64 0]) ∧ OW X B A S9 w' := by
  refine (load_is (some ⟨b, 0, none⟩) 2 2 L3 (some ⟨b + 1, 0, none⟩) (some ⟨b + 2, 0, none⟩) 2 2 [1, 0] 1 W9 2 X rfl (by decide) (Lib.hid (ag_lit h.1)) (by decide) (Lib.hid (ints_lit h.2.1)) (Lib.hid (wires9_lit h.2.2.1)) (by decide) (by decide)).mono ?_
  rintro e w' (⟨h0, _⟩ | ⟨_, B, A, rfl, ho⟩)
  · exact absurd load9 h0
  · refine ⟨B, A, rfl, ?_⟩
    rw [show (1 : Int).toNat = 1 from rfl, show (2 : Int).toNat = 2 from rfl, tidy9] at ho
    exact ho
theorem lit9_store {b B A : Nat} {X0 X : World} (h : Lit9 b X) (ho : OW X0 B A S9 X) : Calls Try.prog 31 #[.slice (some ⟨b, 0, none⟩) 2 2, .pointer (some ⟨B, 0, none⟩)] X fun e w' => ∃ V1 c1 V2 c2 V3 c3, e = .returned (.tuple #[.agg #[.slice V1 2 c1, .int .i64 1, .slice V2 2 c2], .slice V3 2 c3, .int .i64 0]) ∧ WrRd w' V2 T9 ∧ IntsRd w' V3 [0, 1] ∧ Below X.heap.size X w' := by
  obtain ⟨⟨FA, hg, _⟩, _⟩ := ho
  refine (store_is (some ⟨b, 0, none⟩) 2 2 L3 B A S9 FA [1, 0] 1 T9 X rfl (by decide) (Lib.hid (ag_lit h.1)) (by decide) (Lib.hid (by rw [chk3])) (Lib.hid hg) (Lib.hid s9_is.1) (Lib.hid (netChk_ok net9).2.2.2.2.1) (by decide) (by decide) (Lib.hid s9_is.2)).mono ?_
  rintro e w' ⟨V1, c1, V2, c2, V3, c3, rfl, hnf, hfr⟩
  rw [tidy9b] at hnf ⊢
  exact ⟨V1, c1, V2, c2, V3, c3, rfl, hnf.2.1.wires, hfr.1.ints, hfr.2.2⟩
set_option maxHeartbeats 2000000 in
theorem works09 (w : World) : Calls Try.prog 28 #[] w fun e w' => e = .returned (.bool true) ∧ Below w.heap.size w w' := by
  go_enter Try.func28, Try.ntmps28
  go_upto_region 3 with fail
  refine absW (fun X => Lit9 w.heap.size X ∧ Below w.heap.size w X) ⟨heap4 w _ _ _ _, by (repeat (first | exact Below.refl _ _ | (with_reducible refine Below.drew ?_) | (with_reducible refine Below.alloc ?_ (by (try simp); (try omega)) _) | (with_reducible refine Below.setCell ?_ (by (try simp); (try omega)) _) | (with_reducible refine Below.trans ?_ (Below.mono (by assumption) (by (try simp); (try omega))))))⟩ ?_
  rintro X ⟨hlit, hbx⟩
  have HL := Lib.hid hlit
  have HB := Lib.hid hbx
  have n0 : X.cell? ⟨w.heap.size + 3, 0, none⟩ = some (.slice (some ⟨w.heap.size + 1, 0, none⟩) 2 2) := by simp [World.cell?, hlit.2.2.2]
  have n1 : X.cell? ⟨w.heap.size + 3, 1, none⟩ = some (.int .i64 1) := by simp [World.cell?, hlit.2.2.2]
  have n2 : X.cell? ⟨w.heap.size + 3, 2, none⟩ = some (.slice (some ⟨w.heap.size + 2, 0, none⟩) 2 2) := by simp [World.cell?, hlit.2.2.2]
  clear hlit hbx
  go_wp2_with fail
  refine (lit9_load HL.out).mono ?_
  rintro e w1 ⟨B, A, rfl, ho⟩
  have HO := Lib.hid ho
  have HL1 := Lib.hid (HL.out.below ho.b)
  clear n0 n1 n2 ho
  go_wp2_with fail
  refine (lit9_store HL1.out HO.out).mono ?_
  rintro e w2 ⟨V1, c1, V2, c2, V3, c3, rfl, hw, hi, hb2⟩
  have HW := Lib.hid hw
  have HB2 := Lib.hid ((HB.out.trans (HO.out.b.mono HB.out.size)).trans (hb2.mono (HB.out.trans (HO.out.b.mono HB.out.size)).size))
  obtain ⟨b, off, rfl, hb, e0, e1, e2, e3⟩ := hw 0 (by decide)
  obtain ⟨b', off', rfl, hb', f0⟩ := hi 1 (by decide)
  have hE1 : eqW ((-1, 0), (0, 0)) ((-1, 0), (0, 0)) = true := by decide
  simp only [T9, List.getD_cons_zero, List.getD_cons_succ, Nat.zero_mul, Nat.add_zero] at e0 e1 e2 e3 f0
  clear hw hi hb2
  go_wp2
  go_ret
  exact ⟨rfl, HB2.out.alloc HB2.out.size _⟩
end Go.Proofs.Ythbobooiedcofaa
