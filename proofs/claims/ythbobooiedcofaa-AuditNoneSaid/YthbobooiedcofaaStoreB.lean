/-
  load.Store: the free ports.
-/
import Derived.Test.YthbobooiedcofaaStoreG
/-
  load.Store: its beginning.
-/
namespace Go.Proofs.Ythbobooiedcofaa
open Go.RowKit
attribute [local go_sem] cell_set
set_option maxRecDepth 100000
set_option linter.unusedVariables false

theorem alloc_at {X : World} {o : Obj} {b : Nat} (h : X.heap[b]? = some o) (p : Obj) : (X.alloc p).heap[b]? = some o := (Below.heap_alloc _ _ _ (heap_lt h)).trans h
theorem alloc_at_keep {Y : World} {b : Nat} {x : Option Obj} (h : Y.heap[b]? = x) (hl : b < Y.heap.size) (p : Obj) : (Y.alloc p).heap[b]? = x := (Below.heap_alloc _ _ _ hl).trans h
theorem alloc_new {X : World} (o : Obj) {k : Nat} (h : X.heap.size = k) : (X.alloc o).heap[k]? = some o := by subst h; exact heap_alloc_new _ _
theorem five (w : World) (a b c d e : Obj) : (((((w.alloc a).alloc b).alloc c).alloc d).alloc e).heap[w.heap.size]? = some a ∧ (((((w.alloc a).alloc b).alloc c).alloc d).alloc e).heap[w.heap.size + 1]? = some b ∧ (((((w.alloc a).alloc b).alloc c).alloc d).alloc e).heap[w.heap.size + 2]? = some c ∧ (((((w.alloc a).alloc b).alloc c).alloc d).alloc e).heap[w.heap.size + 3]? = some d ∧ (((((w.alloc a).alloc b).alloc c).alloc d).alloc e).heap[w.heap.size + 4]? = some e ∧ Below w.heap.size w (((((w.alloc a).alloc b).alloc c).alloc d).alloc e) := by
  have z1 : (w.alloc a).heap.size = w.heap.size + 1 := World.size_alloc _ _
  have z2 : ((w.alloc a).alloc b).heap.size = w.heap.size + 2 := by rw [World.size_alloc, z1]
  have z3 : (((w.alloc a).alloc b).alloc c).heap.size = w.heap.size + 3 := by rw [World.size_alloc, z2]
  have z4 : ((((w.alloc a).alloc b).alloc c).alloc d).heap.size = w.heap.size + 4 := by rw [World.size_alloc, z3]
  have h0 := alloc_new (X := w) a rfl
  have h1 := alloc_new (X := w.alloc a) b z1
  have h2 := alloc_new (X := (w.alloc a).alloc b) c z2
  have h3 := alloc_new (X := ((w.alloc a).alloc b).alloc c) d z3
  have h4 := alloc_new (X := (((w.alloc a).alloc b).alloc c).alloc d) e z4
  exact ⟨alloc_at (alloc_at (alloc_at (alloc_at h0 b) c) d) e, alloc_at (alloc_at (alloc_at h1 c) d) e, alloc_at (alloc_at h2 d) e, alloc_at h3 e, h4, by (repeat (first | exact Below.refl _ _ | (with_reducible refine Below.drew ?_) | (with_reducible refine Below.alloc ?_ (by (try simp); (try omega)) _) | (with_reducible refine Below.setCell ?_ (by (try simp); (try omega)) _) | (with_reducible refine Below.trans ?_ (Below.mono (by assumption) (by (try simp); (try omega))))))⟩
section
variable (Q : Exit → Act → World → Prop) (w : World) (As : Option Addr) (n cap : Nat) (L : List (ByteArray × Int)) (B A : Nat) (S : Wir) (FA : List Nat)
set_option maxHeartbeats 4000000 in
theorem ls_0 (a : Act) (hn : n = L.length) (hcap : L.length ≤ cap) (HL : Hid (AgRd w As L)) (hl : L.length ≤ maxLen) (hz : Hid ((chk L).1 = 0)) (hG : Hid (WG w B A S FA))
    (hnext : Hid (∀ a' X b10 b11, FrN 182 [] [(1, .pointer (some ⟨B, 0, none⟩)), (2, .pointer (some ⟨w.heap.size, 0, none⟩)), (4, .pointer (some ⟨w.heap.size + 1, 0, none⟩)), (5, .pointer (some ⟨w.heap.size + 2, 0, none⟩)), (6, .pointer (some ⟨w.heap.size + 3, 0, none⟩)), (7, .pointer (some ⟨w.heap.size + 4, 0, none⟩)), (10, .pointer (some ⟨b10, 0, none⟩)), (11, .pointer (some ⟨b11, 0, none⟩))] a' →
      SF w As n cap A X → w.heap.size + 5 ≤ b10 → b11 = b10 + 1 → X.heap[b10]? = some (.cells #[.slice none 0 0, .int .i64 (S.P.length : Int), .slice none 0 0] 67 (0, 0)) → X.heap[b11]? = some (.cells #[.slice none 0 0] 64 (0, 0)) → (lsT 9).wp Try.prog Q a' X))
    (ha : FrN 182 [] [(0, .slice As n cap), (1, .pointer (some ⟨B, 0, none⟩))] a) : (lsT 0).wp Try.prog Q a w := by
  subst hn
  obtain ⟨U, rfl, e0, e1, -⟩ := ha.open
  unfold FrGL
  simp only [e0, e1]
  clear e0 e1 ha
  show (Code.seq _ _).wp _ _ _ _
  have HBz : Hid (∀ X, Below w.heap.size w X → WG X B A S FA) := fun X h => hG.out.below h
  have HLz : Hid (∀ X, Below w.heap.size w X → AgRd X As L) := fun X h => HL.out.below h
  go_wp2_with (go_at_call 15; refine (wi_arena B A S FA _ (HBz.out _ (by (repeat (first | exact Below.refl _ _ | (with_reducible refine Below.drew ?_) | (with_reducible refine Below.alloc ?_ (by (try simp); (try omega)) _) | (with_reducible refine Below.setCell ?_ (by (try simp); (try omega)) _) | (with_reducible refine Below.trans ?_ (Below.mono (by assumption) (by (try simp); (try omega))))))))).mono ?_; rintro e w1 ⟨rfl, rfl⟩)
  have hS0 : SF w As L.length cap A (((((w.alloc (.cells #[.slice As L.length cap] 63)).alloc (.cells #[.slice none 0 0, .int .i64 0, .slice none 0 0] 67)).alloc (.cells #[.slice none 0 0] 64)).alloc (.cells #[.int .i64 0] 24)).alloc (.cells #[.pointer (some ⟨A, 0, none⟩)] 23)) := by
    obtain ⟨h1, h2, h3, h4, h5, h6⟩ := five w (.cells #[.slice As L.length cap] 63) (.cells #[.slice none 0 0, .int .i64 0, .slice none 0 0] 67) (.cells #[.slice none 0 0] 64) (.cells #[.int .i64 0] 24) (.cells #[.pointer (some ⟨A, 0, none⟩)] 23)
    exact ⟨h1, h2, h3, h4, h5, h6⟩
  generalize (((((w.alloc (.cells #[.slice As L.length cap] 63)).alloc (.cells #[.slice none 0 0, .int .i64 0, .slice none 0 0] 67)).alloc (.cells #[.slice none 0 0] 64)).alloc (.cells #[.int .i64 0] 24)).alloc (.cells #[.pointer (some ⟨A, 0, none⟩)] 23)) = X at hS0 ⊢
  have HS0 := Lib.hid hS0
  refine (check_any As _ cap L X rfl hl hcap (Lib.hid (HLz.out _ hS0.bel))).mono ?_
  rintro e w2 ⟨rfl, hb2⟩
  rw [hz.out]
  have HS2 := Lib.hid (HS0.out.below hb2)
  have HG2 := Lib.hid (HBz.out _ HS2.out.bel)
  have h5 := heap_lt HS2.out.a
  clear hb2 hS0
  simp only []
  have hn0 : (w2.alloc (.cells #[.slice none 0 0, .int .i64 (S.P.length : Int), .slice none 0 0] 67)).heap[w2.heap.size]? = some (.cells #[.slice none 0 0, .int .i64 (S.P.length : Int), .slice none 0 0] 67 (0, 0)) := heap_alloc_new _ _
  have hn1 : ((w2.alloc (.cells #[.slice none 0 0, .int .i64 (S.P.length : Int), .slice none 0 0] 67)).alloc (.cells #[.slice none 0 0] 64)).heap[w2.heap.size + 1]? = some (.cells #[.slice none 0 0] 64 (0, 0)) := by
    have := heap_alloc_new (w2.alloc (.cells #[.slice none 0 0, .int .i64 (S.P.length : Int), .slice none 0 0] 67)) (.cells #[.slice none 0 0] 64)
    rwa [World.size_alloc] at this
  have hn2 : Below w2.heap.size w2 ((w2.alloc (.cells #[.slice none 0 0, .int .i64 (S.P.length : Int), .slice none 0 0] 67)).alloc (.cells #[.slice none 0 0] 64)) := by (repeat (first | exact Below.refl _ _ | (with_reducible refine Below.drew ?_) | (with_reducible refine Below.alloc ?_ (by (try simp); (try omega)) _) | (with_reducible refine Below.setCell ?_ (by (try simp); (try omega)) _) | (with_reducible refine Below.trans ?_ (Below.mono (by assumption) (by (try simp); (try omega))))))
  have hn3 := alloc_at hn0 (.cells #[.slice none 0 0] 64)
  have HN := Lib.hid (And.intro hn3 (And.intro hn1 (HS2.out.below hn2)))
  clear hn0 hn1 hn2 hn3
  iterate 80 (first
    | (with_reducible refine at_seq 9 ?_)
    | (go_at_call 25; refine (wi_free B A S FA _ (by first | exact HG2.out | exact HG2.out.below (by (repeat (first | exact Below.refl _ _ | (with_reducible refine Below.drew ?_) | (with_reducible refine Below.alloc ?_ (by (try simp); (try omega)) _) | (with_reducible refine Below.setCell ?_ (by (try simp); (try omega)) _) | (with_reducible refine Below.trans ?_ (Below.mono (by assumption) (by (try simp); (try omega))))))))).mono ?_; rintro e w3 ⟨rfl, rfl⟩)
    | go_values | go_skip | go_guarded | go_step | go_upon | go_back | go_simp)
  exact hnext.out _ _ _ _ ⟨rfl, rfl, rfl, rfl, rfl, rfl, rfl, rfl, rfl, rfl, trivial⟩ HN.out.2.2 (by omega) rfl HN.out.1 HN.out.2.1
/-- A store of nothing yet. -/
theorem st_new {Y : World} {b10 b11 m b13 : Nat} {f : Int} (h10 : Y.heap[b10]? = some (.cells #[.slice none 0 0, .int .i64 f, .slice none 0 0] 67 (0, 0))) (h11 : Y.heap[b11]? = some (.cells #[.slice none 0 0] 64 (0, 0))) (h13 : Y.heap[b13]? = some (.cells #[.slice none 0 0] 84 (0, 0)))
    (hm : MP (fun n : Int => Value.int .i64 n) Y m (toG [])) : St Y b10 b11 b13 m f [] [] [] [] (toG []) Y := by
  have n1 : b10 ≠ b11 := ty_ne h10 h11 (by decide)
  have n2 : b10 ≠ b13 := ty_ne h10 h13 (by decide)
  have n3 : b11 ≠ b13 := ty_ne h11 h13 (by decide)
  have k : ∀ {b : Nat} {c : Array Value} {t : TypeId}, Y.heap[b]? = some (.cells c t (0, 0)) → m ≠ b := fun h e => by
    subst e
    obtain ⟨l, c, hb, _⟩ := hm
    rw [hb] at h; cases h
  refine ⟨⟨[b10], [b11], [b13], ⟨none, 0, none, 0, h10, Row.nil _ _ _, Row.nil _ _ _, rfl⟩, ⟨⟨none, 0, h11, Row.nil _ _ _, rfl⟩, by decide⟩, ⟨⟨none, 0, h13, Row.nil _ _ _, rfl⟩, by decide⟩, ?_, ?_, ?_, ⟨?_, ?_, ?_⟩, ?_, ?_, ?_⟩, hm, Kp.refl _ _, heap_lt h10, heap_lt h11, heap_lt h13, hm.lt⟩
  · intro y hy; simp at hy ⊢; omega
  · intro y hy; simp at hy ⊢; omega
  · intro y hy; simp at hy ⊢; omega
  · simpa using k h10
  · simpa using k h11
  · simpa using k h13
  · intro y hy; simp at hy; exact .inl hy
  · intro y hy; simp at hy; exact .inl hy
  · intro y hy; simp at hy; exact .inl hy
set_option maxHeartbeats 4000000 in
theorem ls_9 (b10 b11 : Nat) (f : Int) (a : Act) (X : World) (hS : Hid (SF w As n cap A X)) (h10 : w.heap.size + 5 ≤ b10) (h11 : b11 = b10 + 1) (x10 : Hid (X.heap[b10]? = some (.cells #[.slice none 0 0, .int .i64 f, .slice none 0 0] 67 (0, 0)))) (x11 : Hid (X.heap[b11]? = some (.cells #[.slice none 0 0] 64 (0, 0))))
    (hnext : Hid (∀ a' Y b12 b13 m, FrN 182 [] (LS w.heap.size B b10 b11 b12 b13) a' →
      SF w As n cap A Y → St Y b10 b11 b13 m f [] [] [] [] (toG []) Y → Y.heap[b12]? = some (.cells #[.map (some m)] 136 (0, 0)) → w.heap.size + 5 ≤ b12 → w.heap.size + 5 ≤ b13 → w.heap.size + 5 ≤ m → (lsT 11).wp Try.prog Q a' Y))
    (ha : FrN 182 [] [(1, .pointer (some ⟨B, 0, none⟩)), (2, .pointer (some ⟨w.heap.size, 0, none⟩)), (4, .pointer (some ⟨w.heap.size + 1, 0, none⟩)), (5, .pointer (some ⟨w.heap.size + 2, 0, none⟩)), (6, .pointer (some ⟨w.heap.size + 3, 0, none⟩)), (7, .pointer (some ⟨w.heap.size + 4, 0, none⟩)), (10, .pointer (some ⟨b10, 0, none⟩)), (11, .pointer (some ⟨b11, 0, none⟩))] a) : (lsT 9).wp Try.prog Q a X := by
  obtain ⟨U, rfl, e1, e2, e4, e5, e6, e7, e10, e11, -⟩ := ha.open
  unfold FrGL
  simp only [e1, e2, e4, e5, e6, e7, e10, e11]
  clear e1 e2 e4 e5 e6 e7 e10 e11 ha
  show (Code.seq _ _).wp _ _ _ _
  have l5 := heap_lt hS.out.a
  have hmm := @run_makeMap Try.prog
  obtain ⟨w3, hr3, mp3, k3, z3⟩ := (MP.made (enc := fun n : Int => Value.int .i64 n) X).update (P := Try.prog) (T := 136) kint Try.underlying136 (-1) (.int .i64 (-1))
  have HB3 := Lib.hid ((Kp.refl [] X).alloc (.map #[] 0) |>.trans k3 (fun b hb => by simp at hb; subst hb; exact .inr (Nat.le_refl _)))
  have HM3 := Lib.hid mp3
  rw [World.size_alloc] at z3
  clear mp3 k3
  have q12 : (w3.alloc (.cells #[.map (some X.heap.size)] 136)).heap[X.heap.size + 1]? = some (.cells #[.map (some X.heap.size)] 136 (0, 0)) := alloc_new _ z3
  have q13 : ((w3.alloc (.cells #[.map (some X.heap.size)] 136)).alloc (.cells #[.slice none 0 0] 84)).heap[X.heap.size + 1 + 1]? = some (.cells #[.slice none 0 0] 84 (0, 0)) := alloc_new _ (by rw [World.size_alloc, z3])
  have kY : Kp [] X ((w3.alloc (.cells #[.map (some X.heap.size)] 136)).alloc (.cells #[.slice none 0 0] 84)) := (HB3.out.alloc _).alloc _
  have y10 := (kY.block b10 (heap_lt x10.out) (by simp)).trans x10.out
  have y11 := (kY.block b11 (heap_lt x11.out) (by simp)).trans x11.out
  have hst := st_new y10 y11 q13 (toG_nil ▸ (HM3.out.keep (alloc_at_keep (alloc_at_keep rfl HM3.out.lt _) (by have := HM3.out.lt; simp; omega) _)))
  have HN := Lib.hid (And.intro (hS.out.kp kY (by simp)) (And.intro hst (alloc_at q12 (.cells #[.slice none 0 0] 84))))
  clear q12 q13 kY y10 y11 hst
  iterate 80 (first | (with_reducible refine at_seq3 11 ?_) | (with_reducible refine at_seq2 11 ?_) | (with_reducible refine at_seq 11 ?_) | go_values | go_skip | go_guarded | go_step | go_upon | go_back | go_simp)
  exact hnext.out _ _ _ _ _ ⟨rfl, rfl, rfl, rfl, rfl, rfl, rfl, rfl, rfl, rfl, rfl, rfl, trivial⟩ HN.out.1 HN.out.2.1 HN.out.2.2 (by omega) (by omega) (by omega)
end
end Go.Proofs.Ythbobooiedcofaa
namespace Go.Proofs.Ythbobooiedcofaa
open Go.RowKit
attribute [local go_sem] cell_set
set_option maxRecDepth 100000
set_option linter.unusedVariables false

theorem portS_info : (Try.prog.info? 39).map (fun i => (i.zero, i.size, i.bytes)) = some (some (.agg #[.int .i64 0, .int .i64 0]), 2, 16) := by kernel_rfl
theorem SF.cells {w X : World} {As : Option Addr} {n cap A : Nat} (h : SF w As n cap A X) : X.cell? ⟨w.heap.size, 0, none⟩ = some (.slice As n cap) ∧ X.cell? ⟨w.heap.size + 4, 0, none⟩ = some (.pointer (some ⟨A, 0, none⟩)) ∧ w.heap.size + 4 < X.heap.size := by
  have h1 := h.s
  have h2 := h.a
  exact ⟨by simp [World.cell?, h1], by simp [World.cell?, h2], heap_lt h2⟩
/-- Both, as the loop keeps them. -/
structure SB (w w0 : World) (As : Option Addr) (n cap A b10 b11 b12 b13 m : Nat) (f : Int) (C K : List Int) (P : List Pt) (T : List (Pt × Pt)) (g : Int → Option Value) (X : World) : Prop where
  s : SF w As n cap A X
  t : St w0 b10 b11 b13 m f C K P T g X
  b : X.heap[b12]? = some (.cells #[.map (some m)] 136 (0, 0))
  l : w.heap.size + 5 ≤ b10 ∧ w.heap.size + 5 ≤ b11 ∧ w.heap.size + 5 ≤ b12 ∧ w.heap.size + 5 ≤ b13 ∧ w.heap.size + 5 ≤ m
  d : b12 < w0.heap.size
  z : SF w As n cap A w0
  b0 : w0.heap[b12]? = some (.cells #[.map (some m)] 136 (0, 0))
  ne : b12 ∉ [b10, b11, b13, m]
section
variable {w w0 X X' : World} {As : Option Addr} {n cap A b10 b11 b12 b13 m : Nat} {f : Int} {C K C' K' : List Int} {P P' : List Pt} {T T' : List (Pt × Pt)} {g g' : Int → Option Value}
/-- Whatever is built further. -/
theorem SB.of (h : SB w w0 As n cap A b10 b11 b12 b13 m f C K P T g X) (ht : St w0 b10 b11 b13 m f C' K' P' T' g' X') : SB w w0 As n cap A b10 b11 b12 b13 m f C' K' P' T' g' X' :=
  ⟨h.z.kp ht.kp (fun b hb => by have := h.l; simp at hb; omega), ht, (ht.kp.block b12 h.d h.ne).trans h.b0, h.l, h.d, h.z, h.b0, h.ne⟩
theorem SB.below (h : SB w w0 As n cap A b10 b11 b12 b13 m f C K P T g X) (hb : Below X.heap.size X X') : SB w w0 As n cap A b10 b11 b12 b13 m f C K P T g X' := h.of (h.t.below hb)
theorem SB.first (hs : SF w As n cap A X) (ht : St X b10 b11 b13 m f C K P T g X) (hb : X.heap[b12]? = some (.cells #[.map (some m)] 136 (0, 0))) (hl : w.heap.size + 5 ≤ b10 ∧ w.heap.size + 5 ≤ b11 ∧ w.heap.size + 5 ≤ b12 ∧ w.heap.size + 5 ≤ b13 ∧ w.heap.size + 5 ≤ m) : SB w X As n cap A b10 b11 b12 b13 m f C K P T g X := by
  refine ⟨hs, ht, hb, hl, heap_lt hb, hs, hb, ?_⟩
  obtain ⟨F1, F2, F3, ⟨V1, c1, V2, c2, x1, _⟩, ⟨⟨V, c, x2, _⟩, _⟩, ⟨⟨V', c', x3, _⟩, _⟩, _⟩ := ht.ex
  obtain ⟨lm, cm, hm, _⟩ := ht.mp
  have n1 : b12 ≠ b10 := ty_ne hb x1 (by decide)
  have n2 : b12 ≠ b11 := ty_ne hb x2 (by decide)
  have n3 : b12 ≠ b13 := ty_ne hb x3 (by decide)
  have n4 : b12 ≠ m := fun e => by subst e; rw [hm] at hb; cases hb
  simp only [List.mem_cons, List.not_mem_nil, or_false, not_or]
  exact ⟨n1, n2, n3, n4⟩
theorem SB.wg {B : Nat} {S : Wir} {FA : List Nat} (h : SB w w0 As n cap A b10 b11 b12 b13 m f C K P T g X) (hG : WG w B A S FA) : WG X B A S FA := hG.below h.s.bel
theorem SB.free (h : SB w w0 As n cap A b10 b11 b12 b13 m f C K P T g X) : X.cell? ⟨b10, 1, none⟩ = some (.int .i64 f) ∧ b10 < X.heap.size := by
  obtain ⟨F1, F2, F3, ⟨V1, c1, V2, c2, x1, _⟩, _⟩ := h.t.ex
  exact ⟨by simp [World.cell?, x1], heap_lt x1⟩
theorem SB.map (h : SB w w0 As n cap A b10 b11 b12 b13 m f C K P T g X) : X.cell? ⟨b12, 0, none⟩ = some (.map (some m)) ∧ b12 < X.heap.size := by
  have := h.b
  exact ⟨by simp [World.cell?, this], heap_lt this⟩
end
section
variable (Q : Exit → Act → World → Prop) (w w0 : World) (As : Option Addr) (n cap B A b10 b11 b12 b13 m : Nat)
set_option maxHeartbeats 4000000 in
theorem ls_11 (f : Nat) (a : Act) (X : World) (hf : f ≤ 64) (hS : SB w w0 As n cap A b10 b11 b12 b13 m (f : Int) [] [] [] [] (toG []) X)
    (hnext : Hid (∀ a' Y, FrN 182 [] (LS w.heap.size B b10 b11 b12 b13) a' → SB w w0 As n cap A b10 b11 b12 b13 m (f : Int) [] [] (freePs f) [] (toG []) Y → (lsT 16).wp Try.prog Q a' Y))
    (ha : FrN 182 [] (LS w.heap.size B b10 b11 b12 b13) a) : (lsT 11).wp Try.prog Q a X := by
  obtain ⟨U, rfl, e1, e2, e4, e5, e6, e7, e10, e11, e12, e13, -⟩ := ha.open
  obtain ⟨i0, hi0, hi1, hi2, hi3⟩ := info_parts portS_info
  have HS := Lib.hid hS
  obtain ⟨x0, x1⟩ := hS.free
  unfold FrGL
  simp only [e1, e2, e4, e5, e6, e7, e10, e11, e12, e13]
  clear e1 e2 e4 e5 e6 e7 e10 e11 e12 e13 ha hS
  show (Code.seq _ _).wp _ _ _ _
  go_upto_region 12 with fail
  clear x0 x1
  go_loopw [50] (fun i wr => ∃ k : Nat, i = .int .i64 k ∧ k ≤ f ∧ Hid (SB w w0 As n cap A b10 b11 b12 b13 m (f : Int) [] [] (freePs k) [] (toG []) wr)) (fun i _ => f - (intOf i).toNat)
  case atStart => exact ⟨0, rfl, Nat.zero_le _, HS⟩
  case round =>
    obtain ⟨k, rfl, hk, HR⟩ := hrel
    clear HS
    by_cases hlt : k < f
    · obtain ⟨V, c, z0, z1, hrow, happ⟩ := HR.out.t.portS
      have hfl : (freePs k).length = k := by simp [freePs]
      rw [hfl] at z0 hrow happ
      have HRow : Hid (Row (wr.alloc (.cells #[.int .i64 (-1), .int .i64 (k : Int)] 39)) 39 2 (.slice V k c) k (pvals (freePs k))) := hrow.alloc _
      have HSrc : Hid (Src (wr.alloc (.cells #[.int .i64 (-1), .int .i64 (k : Int)] 39)) (some ⟨wr.heap.size, 0, none⟩) 1 2 [.int .i64 (-1), .int .i64 (k : Int)]) :=
        Src.block (cs := #[.int .i64 (-1), .int .i64 (k : Int)]) (t := 39) (fr := (0, 0)) (heap_alloc_new wr _) rfl (by simp [Value.oneCell'])
      have HB63 : k + 1 ≤ maxLen := by simp only [maxLen]; omega
      have HB47 : (k + 1) * 16 ≤ 140737488355328 := by omega
      have HAp := Lib.hid happ
      clear hrow happ hfl
      go_wp2_with (at_builtin; go_loud (refine inPlain rfl (wpo_row_append _ _ _ rfl i0 _ 16 Try.underlying84 hi0 hi1 hi2 hi3 rfl rfl HRow.out _ 1 1 rfl [.int .i64 (-1), .int .i64 (k : Int)] HSrc.out HB63 HB47 ?_)); intro sv5 w5 r5 k5 o5; obtain ⟨V5, cp5, rfl, hc5⟩ := r5.len
                   obtain ⟨⟨q0, q1, q2⟩, hst, _⟩ := HAp.out _ w5 V5 cp5 (-1, (k : Int)) k5 o5 r5
                   have HST := Lib.hid (HR.out.of hst)
                   clear hst)
      go_roundw
      case rel => exact ⟨k + 1, by go_num, by omega, by rw [freePs_succ]; exact HST⟩
      case measure => simp [intOf]; omega
    · obtain rfl : k = f := by omega
      iterate 80 (first | (with_reducible refine at_seq3 16 ?_) | (with_reducible refine at_seq2 16 ?_) | (with_reducible refine at_seq 16 ?_) | go_values | go_skip | go_guarded | go_step | go_upon | go_back | go_simp)
      exact hnext.out _ _ ⟨rfl, rfl, rfl, rfl, rfl, rfl, rfl, rfl, rfl, rfl, rfl, rfl, trivial⟩ HR.out
end
end Go.Proofs.Ythbobooiedcofaa
