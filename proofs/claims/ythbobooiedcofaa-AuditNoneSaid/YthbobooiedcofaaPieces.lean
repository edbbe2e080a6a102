/-
  Memory in pieces: each with its list of blocks; a step turns one piece.
-/
import Derived.Test.YthbobooiedcofaaNetBuild
import Derived.Test.YthbobooiedcofaaArenaGive
namespace Go.Proofs.Ythbobooiedcofaa
open Go.RowKit
set_option maxRecDepth 100000
set_option linter.unusedVariables false

/-- Disjoint. -/
def Dj (F G : List Nat) : Prop := ∀ b ∈ F, b ∉ G
theorem Dj.symm {F G : List Nat} (h : Dj F G) : Dj G F := fun b hb hf => h b hf hb
/-- What a step does to a piece: its blocks may turn, and be new. -/
structure Stp (F : List Nat) (w : World) (F' : List Nat) (w' : World) : Prop where
  kp : Kp F w w'
  new : ∀ b ∈ F', b ∈ F ∨ w.heap.size ≤ b
theorem Dj.stp {F F' G : List Nat} {w w' : World} (h : Dj F G) (hs : Stp F w F' w') (hG : ∀ b ∈ G, b < w.heap.size) : Dj F' G := fun b hb hg => by
  rcases hs.new b hb with h1 | h1
  · exact h b h1 hg
  · have := hG b hg; omega
theorem KeepsFrom.kpC {B : Nat} {F : List Nat} {W W' : World} (h : Kp F W W') (hF : ∀ b ∈ F, b < B ∨ ∃ c t, W.heap[b]? = some (.cells c t (0, 0))) : KeepsFrom B W W' :=
  ⟨h.size, fun k o hB hk ho => (h.block k (heap_lt hk) (fun hm => by
    rcases hF k hm with h1 | ⟨c, t, h1⟩
    · omega
    · rw [h1] at hk; injection hk with hk; subst hk; cases ho)).trans hk⟩
theorem KQ.kpD {F Q : List Nat} {W W' : World} (h : Kp F W W') (hQ : ∀ b ∈ Q, b < W.heap.size) (hd : Dj Q F) : KQ Q W W' := ⟨h.size, fun b hb => h.block b (hQ b hb) (hd b hb)⟩
/-- A box that holds a slice in memory of its own. -/
structure BoxS (w : World) (b : Nat) (te e : TypeId) (size n : Nat) (xs : List Value) (F : List Nat) : Prop where
  ex : ∃ V c, w.heap[b]? = some (.cells #[.slice V n c] te (0, 0)) ∧ Row w e size (.slice V n c) n xs ∧ F = b :: ownB (.slice V n c)
  ne : te ≠ e
section
variable {w w' : World} {b : Nat} {te e : TypeId} {size n : Nat} {xs : List Value} {F : List Nat}
theorem BoxS.keep (h : BoxS w b te e size n xs F) (hk : ∀ y ∈ F, w'.heap[y]? = w.heap[y]?) : BoxS w' b te e size n xs F := by
  obtain ⟨⟨V, c, h1, h2, rfl⟩, ne⟩ := h
  exact ⟨⟨V, c, (hk b (by simp)).trans h1, h2.keep fun y hy => hk y (by simp [hy]), rfl⟩, ne⟩
theorem BoxS.cl (h : BoxS w b te e size n xs F) : ∀ y ∈ F, ∃ c t, w.heap[y]? = some (.cells c t (0, 0)) := by
  obtain ⟨⟨V, c, h1, h2, rfl⟩, ne⟩ := h
  intro y hy
  rcases List.mem_cons.1 hy with rfl | hy
  · exact ⟨_, _, h1⟩
  · obtain ⟨cur, hh⟩ := h2.ty hy; exact ⟨_, _, hh⟩
theorem BoxS.lt (h : BoxS w b te e size n xs F) : ∀ y ∈ F, y < w.heap.size := fun y hy => by obtain ⟨c, t, hh⟩ := h.cl y hy; exact heap_lt hh
theorem BoxS.head (h : BoxS w b te e size n xs F) : b ∈ F := by obtain ⟨⟨V, c, h1, h2, rfl⟩, ne⟩ := h; simp
theorem BoxS.kp {G : List Nat} (h : BoxS w b te e size n xs F) (hk : Kp G w w') (hd : Dj F G) : BoxS w' b te e size n xs F := h.keep fun y hy => hk.block y (h.lt y hy) (hd y hy)
/-- One more: what stands behind the append, and behind the store. -/
theorem BoxS.app {V : Option Addr} {c : Nat} (h1 : w.heap[b]? = some (.cells #[.slice V n c] te (0, 0))) (h2 : Row w e size (.slice V n c) n xs) (ne : te ≠ e) {o : Obj} {w5 : World} {V5 : Option Addr} {c5 m : Nat} {news : List Value}
    (k5 : Kp (ownB (.slice V n c)) (w.alloc o) w5) (o5 : ownB (.slice V5 (n + m) c5) = ownB (.slice V n c) ∨ ownB (.slice V5 (n + m) c5) = [(w.alloc o).heap.size]) (r5 : Row w5 e size (.slice V5 (n + m) c5) (n + m) (xs ++ news)) :
    (w5.cell? ⟨b, 0, none⟩ = some (.slice V n c) ∧ w5.frozen? ⟨b, 0, none⟩ = false ∧ b < w5.heap.size) ∧
    ∃ F', BoxS (w5.setCell ⟨b, 0, none⟩ (.slice V5 (n + m) c5)) b te e size (n + m) (xs ++ news) F' ∧ Stp (b :: ownB (.slice V n c)) w F' (w5.setCell ⟨b, 0, none⟩ (.slice V5 (n + m) c5)) := by
  have hn : b ∉ ownB (.slice V n c) := fun hm => by obtain ⟨cur, hh⟩ := h2.ty hm; rw [hh] at h1; injection h1 with h1; injection h1 with _ h1; exact ne h1.symm
  have hbl := heap_lt h1
  have e5 : w5.heap[b]? = some (.cells #[.slice V n c] te (0, 0)) := (k5.block b (by simp; omega) hn).trans ((Below.heap_alloc _ _ _ hbl).trans h1)
  have hn5 : b ∉ ownB (.slice V5 (n + m) c5) := fun hm => by
    rcases o5 with e | e
    · exact hn (e ▸ hm)
    · rw [e] at hm; simp at hm; omega
  have hk : Kp (ownB (.slice V n c)) w w5 := ((Kp.refl _ w).alloc o).trans k5 (fun b hb => .inl hb)
  refine ⟨⟨by simp [World.cell?, e5], by simp [World.frozen?, e5], heap_lt e5⟩, _, ⟨⟨V5, c5, ?_, r5.keep fun y hy => Below.heap_setCell w5 _ _ y (fun e => hn5 (by have e' : y = b := e; exact e' ▸ hy)), rfl⟩, ne⟩, ⟨?_, fun y hy => ?_⟩⟩
  · simp [World.setCell, Array.getElem?_modify, e5]
  · exact (hk.mono (fun y hy => List.mem_cons_of_mem _ hy)).setCell (p := ⟨b, 0, none⟩) (.inl (by simp)) _
  · rcases List.mem_cons.1 hy with rfl | hy
    · exact .inl (by simp)
    · rcases o5 with e | e
      · exact .inl (by rw [e] at hy; simp [hy])
      · rw [e] at hy; simp at hy; right; omega
end
/-- A net in a box, its lists in memory of their own. -/
structure BoxN (w : World) (b : Nat) (C : List Int) (f : Int) (T : List (Pt × Pt)) (F : List Nat) : Prop where
  ex : ∃ V1 c1 V2 c2, w.heap[b]? = some (.cells #[.slice V1 C.length c1, .int .i64 f, .slice V2 T.length c2] 67 (0, 0)) ∧ Row w 3 1 (.slice V1 C.length c1) C.length (ivals C) ∧ Row w 55 4 (.slice V2 T.length c2) T.length (wrvals T) ∧ F = b :: (ownB (.slice V1 C.length c1) ++ ownB (.slice V2 T.length c2))
section
variable {w w' : World} {b : Nat} {C : List Int} {f : Int} {T : List (Pt × Pt)} {F : List Nat}
theorem BoxN.keep (h : BoxN w b C f T F) (hk : ∀ y ∈ F, w'.heap[y]? = w.heap[y]?) : BoxN w' b C f T F := by
  obtain ⟨V1, c1, V2, c2, h1, h2, h3, rfl⟩ := h.ex
  exact ⟨V1, c1, V2, c2, (hk b (by simp)).trans h1, h2.keep fun y hy => hk y (by simp [hy]), h3.keep fun y hy => hk y (by simp [hy]), rfl⟩
theorem BoxN.cl (h : BoxN w b C f T F) : ∀ y ∈ F, ∃ c t, w.heap[y]? = some (.cells c t (0, 0)) := by
  obtain ⟨V1, c1, V2, c2, h1, h2, h3, rfl⟩ := h.ex
  intro y hy
  simp only [List.mem_cons, List.mem_append] at hy
  rcases hy with rfl | hy | hy
  · exact ⟨_, _, h1⟩
  · obtain ⟨cur, hh⟩ := h2.ty hy; exact ⟨_, _, hh⟩
  · obtain ⟨cur, hh⟩ := h3.ty hy; exact ⟨_, _, hh⟩
theorem BoxN.lt (h : BoxN w b C f T F) : ∀ y ∈ F, y < w.heap.size := fun y hy => by obtain ⟨c, t, hh⟩ := h.cl y hy; exact heap_lt hh
theorem BoxN.head (h : BoxN w b C f T F) : b ∈ F := by obtain ⟨V1, c1, V2, c2, h1, h2, h3, rfl⟩ := h.ex; simp
theorem BoxN.kp {G : List Nat} (h : BoxN w b C f T F) (hk : Kp G w w') (hd : Dj F G) : BoxN w' b C f T F := h.keep fun y hy => hk.block y (h.lt y hy) (hd y hy)
/-- One more cell. -/
theorem BoxN.appC {V1 V2 : Option Addr} {c1 c2 : Nat} (h1 : w.heap[b]? = some (.cells #[.slice V1 C.length c1, .int .i64 f, .slice V2 T.length c2] 67 (0, 0))) (h2 : Row w 3 1 (.slice V1 C.length c1) C.length (ivals C)) (h3 : Row w 55 4 (.slice V2 T.length c2) T.length (wrvals T))
    {o : Obj} {w5 : World} {V5 : Option Addr} {c5 : Nat} {x : Int}
    (k5 : Kp (ownB (.slice V1 C.length c1)) (w.alloc o) w5) (o5 : ownB (.slice V5 (C.length + 1) c5) = ownB (.slice V1 C.length c1) ∨ ownB (.slice V5 (C.length + 1) c5) = [(w.alloc o).heap.size]) (r5 : Row w5 3 1 (.slice V5 (C.length + 1) c5) (C.length + 1) (ivals C ++ [.int .i64 x])) :
    (w5.cell? ⟨b, 0, none⟩ = some (.slice V1 C.length c1) ∧ w5.frozen? ⟨b, 0, none⟩ = false ∧ b < w5.heap.size) ∧
    ∃ F', BoxN (w5.setCell ⟨b, 0, none⟩ (.slice V5 (C.length + 1) c5)) b (C ++ [x]) f T F' ∧ Stp (b :: (ownB (.slice V1 C.length c1) ++ ownB (.slice V2 T.length c2))) w F' (w5.setCell ⟨b, 0, none⟩ (.slice V5 (C.length + 1) c5)) := by
  have hn : b ∉ ownB (.slice V1 C.length c1) := fun hm => by obtain ⟨cur, hh⟩ := h2.ty hm; exact ty_ne h1 hh (by decide) rfl
  have hn2 : b ∉ ownB (.slice V2 T.length c2) := fun hm => by obtain ⟨cur, hh⟩ := h3.ty hm; exact ty_ne h1 hh (by decide) rfl
  have hd : ∀ y ∈ ownB (.slice V2 T.length c2), y ∉ ownB (.slice V1 C.length c1) := fun y hy hm => by
    obtain ⟨cur, hh⟩ := h2.ty hm
    obtain ⟨cur', hh'⟩ := h3.ty hy
    exact ty_ne hh hh' (by decide) rfl
  have hbl := heap_lt h1
  have e5 : w5.heap[b]? = some (.cells #[.slice V1 C.length c1, .int .i64 f, .slice V2 T.length c2] 67 (0, 0)) := (k5.block b (by simp; omega) hn).trans ((Below.heap_alloc _ _ _ hbl).trans h1)
  have hk : Kp (ownB (.slice V1 C.length c1)) w w5 := ((Kp.refl _ w).alloc o).trans k5 (fun b hb => .inl hb)
  have hn5 : ∀ y ∈ ownB (.slice V5 (C.length + 1) c5), y ≠ b := fun y hm e => by
    subst e
    rcases o5 with e | e
    · exact hn (e ▸ hm)
    · rw [e] at hm; simp at hm; omega
  refine ⟨⟨by simp [World.cell?, e5], by simp [World.frozen?, e5], heap_lt e5⟩, _, ⟨V5, c5, V2, c2, ?_, ?_, ?_, rfl⟩, ⟨?_, fun y hy => ?_⟩⟩
  · rw [List.length_append]
    simp [World.setCell, Array.getElem?_modify, e5]
  · rw [ivals_snoc, List.length_append]
    exact r5.keep fun y hy => Below.heap_setCell w5 _ _ y (hn5 y hy)
  · exact (h3.kp hk hd).keep fun y hy => Below.heap_setCell w5 _ _ y (fun e => hn2 (by have e' : y = b := e; exact e' ▸ hy))
  · exact (hk.mono (fun y hy => by simp [hy])).setCell (p := ⟨b, 0, none⟩) (.inl (by simp)) _
  · rw [List.length_append] at hy
    simp only [List.mem_cons, List.mem_append] at hy ⊢
    rcases hy with rfl | hy | hy
    · exact .inl (.inl rfl)
    · rcases o5 with e | e
      · exact .inl (.inr (.inl (e ▸ hy)))
      · have : y = (w.alloc o).heap.size := by
          have hy' : y ∈ ownB (.slice V5 (C.length + 1) c5) := hy
          rw [e] at hy'; simpa using hy'
        right; simp at this; omega
    · exact .inl (.inr (.inr hy))
/-- One more wire. -/
theorem BoxN.appT {V1 V2 : Option Addr} {c1 c2 : Nat} (h1 : w.heap[b]? = some (.cells #[.slice V1 C.length c1, .int .i64 f, .slice V2 T.length c2] 67 (0, 0))) (h2 : Row w 3 1 (.slice V1 C.length c1) C.length (ivals C)) (h3 : Row w 55 4 (.slice V2 T.length c2) T.length (wrvals T))
    {o : Obj} {w5 : World} {V5 : Option Addr} {c5 : Nat} {p q : Pt}
    (k5 : Kp (ownB (.slice V2 T.length c2)) (w.alloc o) w5) (o5 : ownB (.slice V5 (T.length + 1) c5) = ownB (.slice V2 T.length c2) ∨ ownB (.slice V5 (T.length + 1) c5) = [(w.alloc o).heap.size]) (r5 : Row w5 55 4 (.slice V5 (T.length + 1) c5) (T.length + 1) (wrvals T ++ [.int .i64 p.1, .int .i64 p.2, .int .i64 q.1, .int .i64 q.2])) :
    (w5.cell? ⟨b, 2, none⟩ = some (.slice V2 T.length c2) ∧ w5.frozen? ⟨b, 2, none⟩ = false ∧ b < w5.heap.size) ∧
    ∃ F', BoxN (w5.setCell ⟨b, 2, none⟩ (.slice V5 (T.length + 1) c5)) b C f (T ++ [(p, q)]) F' ∧ Stp (b :: (ownB (.slice V1 C.length c1) ++ ownB (.slice V2 T.length c2))) w F' (w5.setCell ⟨b, 2, none⟩ (.slice V5 (T.length + 1) c5)) := by
  have hn : b ∉ ownB (.slice V1 C.length c1) := fun hm => by obtain ⟨cur, hh⟩ := h2.ty hm; exact ty_ne h1 hh (by decide) rfl
  have hn2 : b ∉ ownB (.slice V2 T.length c2) := fun hm => by obtain ⟨cur, hh⟩ := h3.ty hm; exact ty_ne h1 hh (by decide) rfl
  have hd : ∀ y ∈ ownB (.slice V1 C.length c1), y ∉ ownB (.slice V2 T.length c2) := fun y hm hy => by
    obtain ⟨cur, hh⟩ := h2.ty hm
    obtain ⟨cur', hh'⟩ := h3.ty hy
    exact ty_ne hh hh' (by decide) rfl
  have hbl := heap_lt h1
  have e5 : w5.heap[b]? = some (.cells #[.slice V1 C.length c1, .int .i64 f, .slice V2 T.length c2] 67 (0, 0)) := (k5.block b (by simp; omega) hn2).trans ((Below.heap_alloc _ _ _ hbl).trans h1)
  have hk : Kp (ownB (.slice V2 T.length c2)) w w5 := ((Kp.refl _ w).alloc o).trans k5 (fun b hb => .inl hb)
  have hn5 : ∀ y ∈ ownB (.slice V5 (T.length + 1) c5), y ≠ b := fun y hm e => by
    subst e
    rcases o5 with e | e
    · exact hn2 (e ▸ hm)
    · rw [e] at hm; simp at hm; omega
  refine ⟨⟨by simp [World.cell?, e5], by simp [World.frozen?, e5], heap_lt e5⟩, _, ⟨V1, c1, V5, c5, ?_, ?_, ?_, rfl⟩, ⟨?_, fun y hy => ?_⟩⟩
  · rw [List.length_append]
    simp [World.setCell, Array.getElem?_modify, e5]
  · exact (h2.kp hk hd).keep fun y hy => Below.heap_setCell w5 _ _ y (fun e => hn (by have e' : y = b := e; exact e' ▸ hy))
  · rw [wrvals_snoc, List.length_append]
    exact r5.keep fun y hy => Below.heap_setCell w5 _ _ y (hn5 y hy)
  · exact (hk.mono (fun y hy => by simp [hy])).setCell (p := ⟨b, 2, none⟩) (.inl (by simp)) _
  · rw [List.length_append] at hy
    simp only [List.mem_cons, List.mem_append] at hy ⊢
    rcases hy with rfl | hy | hy
    · exact .inl (.inl rfl)
    · exact .inl (.inr (.inl hy))
    · rcases o5 with e | e
      · exact .inl (.inr (.inr (e ▸ hy)))
      · have : y = (w.alloc o).heap.size := by
          have hy' : y ∈ ownB (.slice V5 (T.length + 1) c5) := hy
          rw [e] at hy'; simpa using hy'
        right; simp at this; omega
end
end Go.Proofs.Ythbobooiedcofaa
