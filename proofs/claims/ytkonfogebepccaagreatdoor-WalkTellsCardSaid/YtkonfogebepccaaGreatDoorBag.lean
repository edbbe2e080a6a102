/-
  skeinref00.Bag: what it holds; one more list; are they apart?
-/
import Derived.Test.YtkonfogebepccaaGreatDoorBagNum
import Derived.Test.YtkonfogebepccaaGreatDoorBagInts
import Derived.Test.YtkonfogebepccaaGreatDoorBagPorts
import Derived.Test.YtkonfogebepccaaGreatDoorBagWires
import Derived.Test.YtkonfogebepccaaGreatDoorBagPairs
/-
  skeinref00.Bag: the lists of a kind, where there are none.
-/
namespace Go.Proofs.YtkonfogebepccaaGreatDoor
open Go.RowKit
attribute [local go_sem] cell_set
set_option maxRecDepth 100000
set_option linter.unusedVariables false

set_option maxHeartbeats 4000000 in
theorem apBytes_none (G : Nat) (w : World) (h : w.cell? ⟨G, 0, none⟩ = some (.slice none 0 0)) : Calls Tryz.prog 40 #[.pointer (some ⟨G, 0, none⟩)] w fun e w' => e = .returned (.bool true) ∧ w = w' := by
  go_enter Tryz.func40, Tryz.ntmps40
  go_wp2_with fail
  go_loopw [3] (fun n wr => n = .int .i64 0 ∧ Hid (w = wr)) (fun _ _ => 0)
  case atStart => exact ⟨rfl, rfl⟩
  case round =>
    obtain ⟨rfl, hw⟩ := hrel
    obtain rfl := hw.out
    go_wp2_with fail
    go_loopw [5, 6, 7] (fun x y n wr => x = .slice none 0 0 ∧ y = .slice none 0 0 ∧ n = .int .i64 0 ∧ Hid (w = wr)) (fun _ _ _ _ => 0)
    case atStart => exact ⟨rfl, rfl, rfl, rfl⟩
    case round =>
      obtain ⟨rfl, rfl, rfl, hw⟩ := hrel
      obtain rfl := hw.out
      go_wp2_with fail
      go_loopw [10] (fun n wr => n = .int .i64 0 ∧ Hid (w = wr)) (fun _ _ => 0)
      case atStart => exact ⟨rfl, rfl⟩
      case round =>
        obtain ⟨rfl, hw⟩ := hrel
        obtain rfl := hw.out
        go_wp2_with fail
        go_ret
        exact ⟨rfl, rfl⟩
set_option maxHeartbeats 4000000 in
theorem apBools_none (G : Nat) (w : World) (h : w.cell? ⟨G, 2, none⟩ = some (.slice none 0 0)) : Calls Tryz.prog 42 #[.pointer (some ⟨G, 0, none⟩)] w fun e w' => e = .returned (.bool true) ∧ w = w' := by
  go_enter Tryz.func42, Tryz.ntmps42
  go_wp2_with fail
  go_loopw [3] (fun n wr => n = .int .i64 0 ∧ Hid (w = wr)) (fun _ _ => 0)
  case atStart => exact ⟨rfl, rfl⟩
  case round =>
    obtain ⟨rfl, hw⟩ := hrel
    obtain rfl := hw.out
    go_wp2_with fail
    go_loopw [5, 6, 7] (fun x y n wr => x = .slice none 0 0 ∧ y = .slice none 0 0 ∧ n = .int .i64 0 ∧ Hid (w = wr)) (fun _ _ _ _ => 0)
    case atStart => exact ⟨rfl, rfl, rfl, rfl⟩
    case round =>
      obtain ⟨rfl, rfl, rfl, hw⟩ := hrel
      obtain rfl := hw.out
      go_wp2_with fail
      go_loopw [10] (fun n wr => n = .int .i64 0 ∧ Hid (w = wr)) (fun _ _ => 0)
      case atStart => exact ⟨rfl, rfl⟩
      case round =>
        obtain ⟨rfl, hw⟩ := hrel
        obtain rfl := hw.out
        go_wp2_with fail
        go_ret
        exact ⟨rfl, rfl⟩
set_option maxHeartbeats 4000000 in
theorem apTexts_none (G : Nat) (w : World) (h : w.cell? ⟨G, 3, none⟩ = some (.slice none 0 0)) : Calls Tryz.prog 43 #[.pointer (some ⟨G, 0, none⟩)] w fun e w' => e = .returned (.bool true) ∧ w = w' := by
  go_enter Tryz.func43, Tryz.ntmps43
  go_wp2_with fail
  go_loopw [3] (fun n wr => n = .int .i64 0 ∧ Hid (w = wr)) (fun _ _ => 0)
  case atStart => exact ⟨rfl, rfl⟩
  case round =>
    obtain ⟨rfl, hw⟩ := hrel
    obtain rfl := hw.out
    go_wp2_with fail
    go_loopw [5, 6, 7] (fun x y n wr => x = .slice none 0 0 ∧ y = .slice none 0 0 ∧ n = .int .i64 0 ∧ Hid (w = wr)) (fun _ _ _ _ => 0)
    case atStart => exact ⟨rfl, rfl, rfl, rfl⟩
    case round =>
      obtain ⟨rfl, rfl, rfl, hw⟩ := hrel
      obtain rfl := hw.out
      go_wp2_with fail
      go_loopw [10] (fun n wr => n = .int .i64 0 ∧ Hid (w = wr)) (fun _ _ => 0)
      case atStart => exact ⟨rfl, rfl⟩
      case round =>
        obtain ⟨rfl, hw⟩ := hrel
        obtain rfl := hw.out
        go_wp2_with fail
        go_ret
        exact ⟨rfl, rfl⟩
set_option maxHeartbeats 4000000 in
theorem apAgents_none (G : Nat) (w : World) (h : w.cell? ⟨G, 4, none⟩ = some (.slice none 0 0)) : Calls Tryz.prog 44 #[.pointer (some ⟨G, 0, none⟩)] w fun e w' => e = .returned (.bool true) ∧ w = w' := by
  go_enter Tryz.func44, Tryz.ntmps44
  go_wp2_with fail
  go_loopw [3] (fun n wr => n = .int .i64 0 ∧ Hid (w = wr)) (fun _ _ => 0)
  case atStart => exact ⟨rfl, rfl⟩
  case round =>
    obtain ⟨rfl, hw⟩ := hrel
    obtain rfl := hw.out
    go_wp2_with fail
    go_loopw [5, 6, 7] (fun x y n wr => x = .slice none 0 0 ∧ y = .slice none 0 0 ∧ n = .int .i64 0 ∧ Hid (w = wr)) (fun _ _ _ _ => 0)
    case atStart => exact ⟨rfl, rfl, rfl, rfl⟩
    case round =>
      obtain ⟨rfl, rfl, rfl, hw⟩ := hrel
      obtain rfl := hw.out
      go_wp2_with fail
      go_loopw [10] (fun n wr => n = .int .i64 0 ∧ Hid (w = wr)) (fun _ _ => 0)
      case atStart => exact ⟨rfl, rfl⟩
      case round =>
        obtain ⟨rfl, hw⟩ := hrel
        obtain rfl := hw.out
        go_wp2_with fail
        go_ret
        exact ⟨rfl, rfl⟩
set_option maxHeartbeats 4000000 in
theorem apNets_none (G : Nat) (w : World) (h : w.cell? ⟨G, 8, none⟩ = some (.slice none 0 0)) : Calls Tryz.prog 48 #[.pointer (some ⟨G, 0, none⟩)] w fun e w' => e = .returned (.bool true) ∧ w = w' := by
  go_enter Tryz.func48, Tryz.ntmps48
  go_wp2_with fail
  go_loopw [3] (fun n wr => n = .int .i64 0 ∧ Hid (w = wr)) (fun _ _ => 0)
  case atStart => exact ⟨rfl, rfl⟩
  case round =>
    obtain ⟨rfl, hw⟩ := hrel
    obtain rfl := hw.out
    go_wp2_with fail
    go_loopw [5, 6, 7] (fun x y n wr => x = .slice none 0 0 ∧ y = .slice none 0 0 ∧ n = .int .i64 0 ∧ Hid (w = wr)) (fun _ _ _ _ => 0)
    case atStart => exact ⟨rfl, rfl, rfl, rfl⟩
    case round =>
      obtain ⟨rfl, rfl, rfl, hw⟩ := hrel
      obtain rfl := hw.out
      go_wp2_with fail
      go_loopw [10] (fun n wr => n = .int .i64 0 ∧ Hid (w = wr)) (fun _ _ => 0)
      case atStart => exact ⟨rfl, rfl⟩
      case round =>
        obtain ⟨rfl, hw⟩ := hrel
        obtain rfl := hw.out
        go_wp2_with fail
        go_ret
        exact ⟨rfl, rfl⟩
set_option maxHeartbeats 4000000 in
theorem apRules_none (G : Nat) (w : World) (h : w.cell? ⟨G, 9, none⟩ = some (.slice none 0 0)) : Calls Tryz.prog 49 #[.pointer (some ⟨G, 0, none⟩)] w fun e w' => e = .returned (.bool true) ∧ w = w' := by
  go_enter Tryz.func49, Tryz.ntmps49
  go_wp2_with fail
  go_loopw [3] (fun n wr => n = .int .i64 0 ∧ Hid (w = wr)) (fun _ _ => 0)
  case atStart => exact ⟨rfl, rfl⟩
  case round =>
    obtain ⟨rfl, hw⟩ := hrel
    obtain rfl := hw.out
    go_wp2_with fail
    go_loopw [5, 6, 7] (fun x y n wr => x = .slice none 0 0 ∧ y = .slice none 0 0 ∧ n = .int .i64 0 ∧ Hid (w = wr)) (fun _ _ _ _ => 0)
    case atStart => exact ⟨rfl, rfl, rfl, rfl⟩
    case round =>
      obtain ⟨rfl, rfl, rfl, hw⟩ := hrel
      obtain rfl := hw.out
      go_wp2_with fail
      go_loopw [10] (fun n wr => n = .int .i64 0 ∧ Hid (w = wr)) (fun _ _ => 0)
      case atStart => exact ⟨rfl, rfl⟩
      case round =>
        obtain ⟨rfl, hw⟩ := hrel
        obtain rfl := hw.out
        go_wp2_with fail
        go_ret
        exact ⟨rfl, rfl⟩
set_option maxHeartbeats 4000000 in
theorem apSteps_none (G : Nat) (w : World) (h : w.cell? ⟨G, 10, none⟩ = some (.slice none 0 0)) : Calls Tryz.prog 50 #[.pointer (some ⟨G, 0, none⟩)] w fun e w' => e = .returned (.bool true) ∧ w = w' := by
  go_enter Tryz.func50, Tryz.ntmps50
  go_wp2_with fail
  go_loopw [3] (fun n wr => n = .int .i64 0 ∧ Hid (w = wr)) (fun _ _ => 0)
  case atStart => exact ⟨rfl, rfl⟩
  case round =>
    obtain ⟨rfl, hw⟩ := hrel
    obtain rfl := hw.out
    go_wp2_with fail
    go_loopw [5, 6, 7] (fun x y n wr => x = .slice none 0 0 ∧ y = .slice none 0 0 ∧ n = .int .i64 0 ∧ Hid (w = wr)) (fun _ _ _ _ => 0)
    case atStart => exact ⟨rfl, rfl, rfl, rfl⟩
    case round =>
      obtain ⟨rfl, rfl, rfl, hw⟩ := hrel
      obtain rfl := hw.out
      go_wp2_with fail
      go_loopw [10] (fun n wr => n = .int .i64 0 ∧ Hid (w = wr)) (fun _ _ => 0)
      case atStart => exact ⟨rfl, rfl⟩
      case round =>
        obtain ⟨rfl, hw⟩ := hrel
        obtain rfl := hw.out
        go_wp2_with fail
        go_ret
        exact ⟨rfl, rfl⟩
set_option maxHeartbeats 4000000 in
theorem apRows_none (G : Nat) (w : World) (h : w.cell? ⟨G, 11, none⟩ = some (.slice none 0 0)) : Calls Tryz.prog 51 #[.pointer (some ⟨G, 0, none⟩)] w fun e w' => e = .returned (.bool true) ∧ w = w' := by
  go_enter Tryz.func51, Tryz.ntmps51
  go_wp2_with fail
  go_loopw [3] (fun n wr => n = .int .i64 0 ∧ Hid (w = wr)) (fun _ _ => 0)
  case atStart => exact ⟨rfl, rfl⟩
  case round =>
    obtain ⟨rfl, hw⟩ := hrel
    obtain rfl := hw.out
    go_wp2_with fail
    go_loopw [5, 6, 7] (fun x y n wr => x = .slice none 0 0 ∧ y = .slice none 0 0 ∧ n = .int .i64 0 ∧ Hid (w = wr)) (fun _ _ _ _ => 0)
    case atStart => exact ⟨rfl, rfl, rfl, rfl⟩
    case round =>
      obtain ⟨rfl, rfl, rfl, hw⟩ := hrel
      obtain rfl := hw.out
      go_wp2_with fail
      go_loopw [10] (fun n wr => n = .int .i64 0 ∧ Hid (w = wr)) (fun _ _ => 0)
      case atStart => exact ⟨rfl, rfl⟩
      case round =>
        obtain ⟨rfl, hw⟩ := hrel
        obtain rfl := hw.out
        go_wp2_with fail
        go_ret
        exact ⟨rfl, rfl⟩
end Go.Proofs.YtkonfogebepccaaGreatDoor
namespace Go.Proofs.YtkonfogebepccaaGreatDoor
open Go.RowKit
attribute [local go_sem] cell_set
set_option maxRecDepth 100000
set_option linter.unusedVariables false

/-- A bag at block G: its lists of ints, ports, wires, pairs; none of the other kinds. -/
structure BagW (w : World) (G : Nat) (si sp sw sq : Value) (li lp lw lq : List Value) : Prop where
  blk : w.heap[G]? = some (.cells #[.slice none 0 0, si, .slice none 0 0, .slice none 0 0, .slice none 0 0, sp, sw, sq, .slice none 0 0, .slice none 0 0, .slice none 0 0, .slice none 0 0] 62 (0, 0))
  ri : Row w 23 1 si li.length li
  rp : Row w 90 1 sp lp.length lp
  rw : Row w 24 1 sw lw.length lw
  rq : Row w 117 1 sq lq.length lq
theorem BagW.new (w : World) : BagW (w.alloc (.cells #[.slice none 0 0, .slice none 0 0, .slice none 0 0, .slice none 0 0, .slice none 0 0, .slice none 0 0, .slice none 0 0, .slice none 0 0, .slice none 0 0, .slice none 0 0, .slice none 0 0, .slice none 0 0] 62)) w.heap.size (.slice none 0 0) (.slice none 0 0) (.slice none 0 0) (.slice none 0 0) [] [] [] [] :=
  ⟨heap_alloc_new w _, Row.nil _ _ _, Row.nil _ _ _, Row.nil _ _ _, Row.nil _ _ _⟩
section
variable {w w' : World} {G : Nat} {si sp sw sq : Value} {li lp lw lq : List Value}
theorem BagW.keep (h : BagW w G si sp sw sq li lp lw lq) (hG : w'.heap[G]? = w.heap[G]?) (hk : ∀ b, (b ∈ ownB si ∨ b ∈ ownB sp ∨ b ∈ ownB sw ∨ b ∈ ownB sq) → w'.heap[b]? = w.heap[b]?) : BagW w' G si sp sw sq li lp lw lq :=
  ⟨hG.trans h.blk, h.ri.keep fun b hb => hk b (.inl hb), h.rp.keep fun b hb => hk b (.inr (.inl hb)), h.rw.keep fun b hb => hk b (.inr (.inr (.inl hb))), h.rq.keep fun b hb => hk b (.inr (.inr (.inr hb)))⟩
theorem BagW.lt (h : BagW w G si sp sw sq li lp lw lq) : G < w.heap.size ∧ ∀ b, (b ∈ ownB si ∨ b ∈ ownB sp ∨ b ∈ ownB sw ∨ b ∈ ownB sq) → b < w.heap.size :=
  ⟨heap_lt h.blk, fun b hb => by
    rcases hb with hb | hb | hb | hb
    · exact h.ri.lt b hb
    · exact h.rp.lt b hb
    · exact h.rw.lt b hb
    · exact h.rq.lt b hb⟩
theorem BagW.below (h : BagW w G si sp sw sq li lp lw lq) (hb : Below w.heap.size w w') : BagW w' G si sp sw sq li lp lw lq :=
  h.keep (hb.block _ h.lt.1) fun b hm => hb.block b (h.lt.2 b hm)
end
/-- Lists of a kind, each in memory of its own. -/
structure LsOk (w : World) (e : TypeId) (size N : Nat) (v : Nat → Value) (len : Nat → Nat) : Prop where
  rows : ∀ i, i < N → ∃ xs, Row w e size (v i) (len i) xs
  dj : ∀ i j, i < N → j < N → i ≠ j → ∀ b ∈ ownB (v i), b ∉ ownB (v j)
  le : ∀ i, i < N → len i ≤ 1000000
  n : N ≤ 300
def blks (N : Nat) (v : Nat → Value) : List Nat := (List.range N).flatMap fun i => ownB (v i)
theorem blks_mem {N : Nat} {v : Nat → Value} {b : Nat} : b ∈ blks N v ↔ ∃ i, i < N ∧ b ∈ ownB (v i) := by simp [blks]
theorem LsOk.type {w : World} {e : TypeId} {size N : Nat} {v : Nat → Value} {len : Nat → Nat} (h : LsOk w e size N v len) : ∀ b ∈ blks N v, ∃ cur, w.heap[b]? = some (.cells cur e (0, 0)) := by
  intro b hb
  obtain ⟨i, hi, hb⟩ := blks_mem.1 hb
  obtain ⟨xs, hr⟩ := h.rows i hi
  exact row_block hr b hb
theorem ty_no {w : World} {b : Nat} {c c' : Array Value} {t t' : TypeId} (h : w.heap[b]? = some (.cells c t (0, 0))) (h' : w.heap[b]? = some (.cells c' t' (0, 0))) (hne : t ≠ t') : False := by
  rw [h] at h'; injection h' with h'; injection h' with _ ht; exact hne ht
theorem LsOk.bg {w X : World} {e e' : TypeId} {size N : Nat} {v : Nat → Value} {len : Nat → Nat} (h : LsOk w e size N v len) {c : Int → List Value} {G off : Nat} {V : Value} {cs : Array Value} {tG : TypeId} (hG : w.heap[G]? = some (.cells cs tG (0, 0))) (hc : w.cell? ⟨G, off, none⟩ = some V)
    (hr : Row w e' 1 V N ((List.range N).map v)) (hne : e ≠ e') (hnG : e ≠ tG) {F : List Nat} (hk : Kp F w X) (hF : ∀ b ∈ F, ∃ cur t, w.heap[b]? = some (.cells cur t (0, 0)) ∧ t ≠ e ∧ t ≠ e' ∧ t ≠ tG) : Bg e e' size c G off V N v len (blks N v) X 0 X := by
  have hGF : G ∉ F := fun hb => by obtain ⟨cur, t, h1, _, _, h2⟩ := hF G hb; exact ty_no h1 hG h2
  have hGl := heap_lt hG
  have hrow : ∀ {u : Value} {n : Nat} {ys : List Value}, Row w e size u n ys → Row X e size u n ys := fun hu => hu.kp hk (fun b hb hb' => by
    obtain ⟨c1, h1⟩ := row_block hu b hb
    obtain ⟨cur, t, h2, h3, _⟩ := hF b hb'
    exact ty_no h2 h1 h3)
  refine ⟨(hk.cell (p := ⟨G, off, none⟩) hGl hGF).trans hc, Nat.lt_of_lt_of_le hGl hk.size, hr.kp hk (fun b hb hb' => ?_), ?_, fun i hi => ?_, fun i hi b hb => ?_, h.dj, hne, Kp.refl _ _⟩
  · obtain ⟨c1, h1⟩ := row_block hr b hb
    obtain ⟨cur, t, h2, _, h3, _⟩ := hF b hb'
    exact ty_no h2 h1 h3
  · intro b hb
    exact Nat.lt_of_lt_of_le (hr.lt b hb) hk.size
  · obtain ⟨xs, h1⟩ := h.rows i hi
    exact ⟨xs, hrow h1, fun hh => absurd hh (by omega)⟩
  · obtain ⟨xs, h1⟩ := h.rows i hi
    refine ⟨Nat.lt_of_lt_of_le (h1.lt b hb) hk.size, fun e1 => ?_, blks_mem.2 ⟨i, hi, hb⟩⟩
    subst e1
    obtain ⟨c1, h2⟩ := row_block h1 _ hb
    exact ty_no h2 hG hnG
/-! ### One more list; are they apart? -/
theorem ty_no' {w : World} {G b : Nat} {cs : Array Value} {t tG : TypeId} (hG : w.heap[G]? = some (.cells cs tG (0, 0))) (hb : ∃ cur, w.heap[b]? = some (.cells cur t (0, 0))) (e : G = b) (hne : t ≠ tG) : False := by
  subst e
  obtain ⟨cur, h⟩ := hb
  exact ty_no h hG hne
theorem Kp.then_ {F G : List Nat} {w w1 w2 : World} (h : Kp F w w1) (k : Kp G w1 w2) : Kp (F ++ G) w w2 := (h.mono (G := F ++ G) (fun b hb => by simp [hb])).trans k (fun b hb => .inl (by simp [hb]))
theorem cell_blk {X : World} {G : Nat} {cs : Array Value} {t : TypeId} {j : Nat} {u : Value} (h : X.heap[G]? = some (.cells cs t (0, 0))) (hu : cs[j]? = some u) : X.cell? ⟨G, j, none⟩ = some u := by
  simp [World.cell?, h, hu]
theorem BagW.put_i {w w2 : World} {G : Nat} {si sp sw sq si' v : Value} {li lp lw lq : List Value} {ob : Obj} (h : BagW w G si sp sw sq li lp lw lq) (hr : Row w2 23 1 si' (li.length + 1) (li ++ [v])) (hp : Kp (ownB si) (w.alloc ob) w2) (ho : ownB si' = ownB si ∨ ownB si' = [(w.alloc ob).heap.size]) :
    w2.cell? ⟨G, 1, none⟩ = some si ∧ w2.frozen? ⟨G, 1, none⟩ = false ∧ BagW (w2.setCell ⟨G, 1, none⟩ si') G si' sp sw sq (li ++ [v]) lp lw lq ∧ Kp (G :: ownB si) w (w2.setCell ⟨G, 1, none⟩ si') ∧ ∀ b ∈ ownB si', b ∈ ownB si ∨ w.heap.size ≤ b := by
  have hGl := heap_lt h.blk
  have hGn : G ∉ ownB si := fun hb => ty_no' h.blk (row_block h.ri _ hb) rfl (by decide)
  have e2 : w2.heap[G]? = w.heap[G]? := (hp.block G (by simp; omega) hGn).trans (Below.heap_alloc _ _ _ hGl)
  have hb2 := e2.trans h.blk
  have hown : ∀ b ∈ ownB si', b ∈ ownB si ∨ w.heap.size ≤ b := fun b hb => by
    rcases ho with e | e <;> rw [e] at hb
    · exact .inl hb
    · simp at hb; exact .inr (by omega)
  have hn : ∀ b ∈ ownB si', b ≠ G := fun b hb e => by
    subst e
    rcases hown _ hb with h1 | h1
    · exact hGn h1
    · omega
  refine ⟨by simp [World.cell?, hb2], by simp [World.frozen?, hb2], ⟨?_, by rw [List.length_append]; exact hr.keep fun b hb => Below.heap_setCell w2 _ _ b (hn b hb), (h.rp.keep fun b hb => (Below.heap_setCell w2 _ _ b (fun e => ty_no' h.blk (row_block h.rp b hb) e.symm (by decide))).trans ((hp.block b (by have := h.rp.lt b hb; simp; omega) (fun hb' => row_ne h.rp h.ri (by decide) b hb hb')).trans (Below.heap_alloc _ _ _ (h.rp.lt b hb)))), (h.rw.keep fun b hb => (Below.heap_setCell w2 _ _ b (fun e => ty_no' h.blk (row_block h.rw b hb) e.symm (by decide))).trans ((hp.block b (by have := h.rw.lt b hb; simp; omega) (fun hb' => row_ne h.rw h.ri (by decide) b hb hb')).trans (Below.heap_alloc _ _ _ (h.rw.lt b hb)))), (h.rq.keep fun b hb => (Below.heap_setCell w2 _ _ b (fun e => ty_no' h.blk (row_block h.rq b hb) e.symm (by decide))).trans ((hp.block b (by have := h.rq.lt b hb; simp; omega) (fun hb' => row_ne h.rq h.ri (by decide) b hb hb')).trans (Below.heap_alloc _ _ _ (h.rq.lt b hb))))⟩, ?_, hown⟩
  · simp [World.setCell, Array.getElem?_modify, hb2]
  · exact (((Kp.refl (G :: ownB si) w).alloc ob).trans (hp.mono (G := G :: ownB si) (fun b hb => by simp [hb])) (fun b hb => .inl hb)).setCell (.inl (by simp)) _
set_option maxHeartbeats 1000000 in
theorem add_i {w : World} {G : Nat} {si sp sw sq : Value} {li lp lw lq : List Value} (A : Option Addr) (n cp : Nat) (HB : Hid (BagW w G si sp sw sq li lp lw lq)) (hl : li.length < 300) :
    Calls Tryz.prog 18 #[.pointer (some ⟨G, 0, none⟩), .slice A n cp] w fun e w' => e = .returned (.tuple #[]) ∧ ∃ si', BagW w' G si' sp sw sq (li ++ [.slice A n cp]) lp lw lq ∧ Kp (G :: ownB si) w w' ∧ ∀ b ∈ ownB si', b ∈ ownB si ∨ w.heap.size ≤ b := by
  obtain ⟨VA, VC, rfl, _⟩ := HB.out.ri.len
  obtain ⟨j0, hf0, hf1, hf2, hf3⟩ := info_parts rowsInts_info
  have hblk := HB.out.blk
  have hG := heap_lt hblk
  have c0 : w.cell? ⟨G, 1, none⟩ = some (.slice VA li.length VC) := by simp [World.cell?, hblk]
  have HRow : Hid (Row (w.alloc (.cells #[.slice A n cp] 23)) 23 1 (.slice VA li.length VC) li.length li) := HB.out.ri.alloc _
  have HSrc : Hid (Src (w.alloc (.cells #[.slice A n cp] 23)) (some ⟨w.heap.size, 0, none⟩) 1 1 [.slice A n cp]) :=
    Src.block (cs := #[.slice A n cp]) (t := 23) (fr := (0, 0)) (heap_alloc_new w _) rfl (by simp [Value.oneCell'])
  have HB63 : li.length + 1 ≤ maxLen := by simp only [maxLen]; omega
  have HB47 : (li.length + 1) * 24 ≤ 140737488355328 := by omega
  have hl2 : decide ((li.length : Int) < 300) = true := by simp; omega
  clear hblk
  go_enter Tryz.func18, Tryz.ntmps18
  go_wp2_with (at_builtin; go_loud (refine inPlain rfl (wpo_row_append _ _ _ rfl j0 _ 24 Tryz.underlying50 hf0 hf1 hf2 hf3 rfl rfl HRow.out _ 1 1 rfl [.slice A n cp] HSrc.out HB63 HB47 ?_)); intro s7 w3 r3 k3 o3
               obtain ⟨V7, C7, rfl, _⟩ := r3.len
               have PT := HB.out.put_i r3 k3 o3
               have g0 := PT.1
               have g1 := PT.2.1
               have HPT := Lib.hid PT.2.2
               clear PT r3 k3 o3)
  go_end0
  exact ⟨rfl, _, HPT.out⟩
set_option maxHeartbeats 4000000 in
/-- All lists are apart: what lies elsewhere is as it was. -/
theorem bag_apart {w : World} {G : Nat} {si sp sw sq : Value} (Ni : Nat) (vi : Nat → Value) (ni : Nat → Nat) (Np : Nat) (vp : Nat → Value) (np : Nat → Nat) (Nw : Nat) (vw : Nat → Value) (nw : Nat → Nat) (Nq : Nat) (vq : Nat → Value) (nq : Nat → Nat) (HB : Hid (BagW w G si sp sw sq ((List.range Ni).map vi) ((List.range Np).map vp) ((List.range Nw).map vw) ((List.range Nq).map vq))) (Hi : Hid (LsOk w 3 1 Ni vi ni)) (Hp : Hid (LsOk w 28 2 Np vp np)) (Hw : Hid (LsOk w 102 4 Nw vw nw)) (Hq : Hid (LsOk w 119 2 Nq vq nq)) :
    Calls Tryz.prog 19 #[.pointer (some ⟨G, 0, none⟩)] w fun e w' => e = .returned (.bool true) ∧ Kp (blks Ni vi ++ (blks Np vp ++ (blks Nw vw ++ blks Nq vq))) w w' := by
  have rii := HB.out.ri
  rw [List.length_map, List.length_range] at rii
  obtain ⟨VAi, VCi, rfl, _⟩ := rii.len
  have rip := HB.out.rp
  rw [List.length_map, List.length_range] at rip
  obtain ⟨VAp, VCp, rfl, _⟩ := rip.len
  have riw := HB.out.rw
  rw [List.length_map, List.length_range] at riw
  obtain ⟨VAw, VCw, rfl, _⟩ := riw.len
  have riq := HB.out.rq
  rw [List.length_map, List.length_range] at riq
  obtain ⟨VAq, VCq, rfl, _⟩ := riq.len
  have hblk := HB.out.blk
  have hGl := heap_lt hblk
  have ci : w.cell? ⟨G, 1, none⟩ = some (.slice VAi Ni VCi) := by simp [World.cell?, hblk]
  have cp : w.cell? ⟨G, 5, none⟩ = some (.slice VAp Np VCp) := by simp [World.cell?, hblk]
  have cw : w.cell? ⟨G, 6, none⟩ = some (.slice VAw Nw VCw) := by simp [World.cell?, hblk]
  have cq : w.cell? ⟨G, 7, none⟩ = some (.slice VAq Nq VCq) := by simp [World.cell?, hblk]
  have tG : ∀ F : List Nat, (∀ b ∈ F, ∃ cur t, w.heap[b]? = some (.cells cur t (0, 0)) ∧ t ≠ 62) → ∀ X, Kp F w X → X.heap[G]? = w.heap[G]? := fun F hF X hk => hk.block G hGl (fun hb => by obtain ⟨cur, t, h1, h2⟩ := hF G hb; exact ty_no h1 hblk h2)
  have Bi : Hid (∀ X, Kp (([] : List Nat)) w X → Bg 3 23 1 cInts G 1 (.slice VAi Ni VCi) Ni vi ni (blks Ni vi) X 0 X) := by
    intro X hk
    refine Hi.out.bg hblk ci rii (by decide) (by decide) hk (fun b hb => ?_)
    simp at hb
  have Bp : Hid (∀ X, Kp (([] : List Nat) ++ blks Ni vi) w X → Bg 28 90 2 cPorts G 5 (.slice VAp Np VCp) Np vp np (blks Np vp) X 0 X) := by
    intro X hk
    refine Hp.out.bg hblk cp rip (by decide) (by decide) hk (fun b hb => ?_)
    simp only [List.nil_append] at hb
    obtain ⟨cur, h1⟩ := Hi.out.type b hb
    exact ⟨cur, _, h1, by decide, by decide, by decide⟩
  have Bw : Hid (∀ X, Kp (([] : List Nat) ++ blks Ni vi ++ blks Np vp) w X → Bg 102 24 4 cWires G 6 (.slice VAw Nw VCw) Nw vw nw (blks Nw vw) X 0 X) := by
    intro X hk
    refine Hw.out.bg hblk cw riw (by decide) (by decide) hk (fun b hb => ?_)
    simp only [List.nil_append, List.mem_append] at hb
    rcases hb with hb | hb
    · obtain ⟨cur, h1⟩ := Hi.out.type b hb
      exact ⟨cur, _, h1, by decide, by decide, by decide⟩
    · obtain ⟨cur, h1⟩ := Hp.out.type b hb
      exact ⟨cur, _, h1, by decide, by decide, by decide⟩
  have Bq : Hid (∀ X, Kp (([] : List Nat) ++ blks Ni vi ++ blks Np vp ++ blks Nw vw) w X → Bg 119 117 2 cPairs G 7 (.slice VAq Nq VCq) Nq vq nq (blks Nq vq) X 0 X) := by
    intro X hk
    refine Hq.out.bg hblk cq riq (by decide) (by decide) hk (fun b hb => ?_)
    simp only [List.nil_append, List.mem_append, or_assoc] at hb
    rcases hb with hb | hb | hb
    · obtain ⟨cur, h1⟩ := Hi.out.type b hb
      exact ⟨cur, _, h1, by decide, by decide, by decide⟩
    · obtain ⟨cur, h1⟩ := Hp.out.type b hb
      exact ⟨cur, _, h1, by decide, by decide, by decide⟩
    · obtain ⟨cur, h1⟩ := Hw.out.type b hb
      exact ⟨cur, _, h1, by decide, by decide, by decide⟩
  have BN : Hid (∀ X, Kp (([] : List Nat) ++ blks Ni vi ++ blks Np vp ++ blks Nw vw ++ blks Nq vq) w X → X.heap[G]? = some (.cells #[.slice none 0 0, .slice VAi Ni VCi, .slice none 0 0, .slice none 0 0, .slice none 0 0, .slice VAp Np VCp, .slice VAw Nw VCw, .slice VAq Nq VCq, .slice none 0 0, .slice none 0 0, .slice none 0 0, .slice none 0 0] 62 (0, 0))) := by
    intro X hk
    refine (tG _ (fun b hb => ?_) X hk).trans hblk
    simp only [List.nil_append, List.mem_append, or_assoc] at hb
    rcases hb with hb | hb | hb | hb
    · obtain ⟨cur, h1⟩ := Hi.out.type b hb
      exact ⟨cur, _, h1, by decide⟩
    · obtain ⟨cur, h1⟩ := Hp.out.type b hb
      exact ⟨cur, _, h1, by decide⟩
    · obtain ⟨cur, h1⟩ := Hw.out.type b hb
      exact ⟨cur, _, h1, by decide⟩
    · obtain ⟨cur, h1⟩ := Hq.out.type b hb
      exact ⟨cur, _, h1, by decide⟩
  have HNi := Lib.hid (And.intro Hi.out.n Hi.out.le)
  have HNp := Lib.hid (And.intro Hp.out.n Hp.out.le)
  have HNw := Lib.hid (And.intro Hw.out.n Hw.out.le)
  have HNq := Lib.hid (And.intro Hq.out.n Hq.out.le)
  have K0 : Hid (Kp ([] : List Nat) w w) := Kp.refl _ _
  have HG0 := Lib.hid hblk
  clear hblk tG rii ci rip cp riw cw riq cq hGl HB
  go_enter Tryz.func19, Tryz.ntmps19
  go_wp2_with (first
    | (go_at_call 40; refine (apBytes_none G _ (cell_blk (BN.out _ (by first | exact K0.out | exact K0.out.mono (fun b hb => by simp only [List.nil_append, List.mem_append] at hb ⊢; simp [hb]) | exact K0.out.mono (fun b hb => by simp at hb))) rfl)).mono ?_; rintro e w9 ⟨rfl, rfl⟩)
    | (go_at_call 41; refine (apartInts_is G Ni VCi VAi vi ni (blks Ni vi) _ HNi.out.1 (Lib.hid HNi.out.2) (Lib.hid (Bi.out _ K0.out))).mono ?_; rintro e wi ⟨rfl, hbi⟩; have K0 := Lib.hid (K0.out.then_ hbi.kp); clear hbi)
    | (go_at_call 42; refine (apBools_none G _ (cell_blk (BN.out _ (by first | exact K0.out | exact K0.out.mono (fun b hb => by simp only [List.nil_append, List.mem_append] at hb ⊢; simp [hb]) | exact K0.out.mono (fun b hb => by simp at hb))) rfl)).mono ?_; rintro e w9 ⟨rfl, rfl⟩)
    | (go_at_call 43; refine (apTexts_none G _ (cell_blk (BN.out _ (by first | exact K0.out | exact K0.out.mono (fun b hb => by simp only [List.nil_append, List.mem_append] at hb ⊢; simp [hb]) | exact K0.out.mono (fun b hb => by simp at hb))) rfl)).mono ?_; rintro e w9 ⟨rfl, rfl⟩)
    | (go_at_call 44; refine (apAgents_none G _ (cell_blk (BN.out _ (by first | exact K0.out | exact K0.out.mono (fun b hb => by simp only [List.nil_append, List.mem_append] at hb ⊢; simp [hb]) | exact K0.out.mono (fun b hb => by simp at hb))) rfl)).mono ?_; rintro e w9 ⟨rfl, rfl⟩)
    | (go_at_call 45; refine (apartPorts_is G Np VCp VAp vp np (blks Np vp) _ HNp.out.1 (Lib.hid HNp.out.2) (Lib.hid (Bp.out _ K0.out))).mono ?_; rintro e wp ⟨rfl, hbp⟩; have K0 := Lib.hid (K0.out.then_ hbp.kp); clear hbp)
    | (go_at_call 46; refine (apartWires_is G Nw VCw VAw vw nw (blks Nw vw) _ HNw.out.1 (Lib.hid HNw.out.2) (Lib.hid (Bw.out _ K0.out))).mono ?_; rintro e ww ⟨rfl, hbw⟩; have K0 := Lib.hid (K0.out.then_ hbw.kp); clear hbw)
    | (go_at_call 47; refine (apartPairs_is G Nq VCq VAq vq nq (blks Nq vq) _ HNq.out.1 (Lib.hid HNq.out.2) (Lib.hid (Bq.out _ K0.out))).mono ?_; rintro e wq ⟨rfl, hbq⟩; have K0 := Lib.hid (K0.out.then_ hbq.kp); clear hbq)
    | (go_at_call 48; refine (apNets_none G _ (cell_blk (BN.out _ (by first | exact K0.out | exact K0.out.mono (fun b hb => by simp only [List.nil_append, List.mem_append] at hb ⊢; simp [hb]) | exact K0.out.mono (fun b hb => by simp at hb))) rfl)).mono ?_; rintro e w9 ⟨rfl, rfl⟩)
    | (go_at_call 49; refine (apRules_none G _ (cell_blk (BN.out _ (by first | exact K0.out | exact K0.out.mono (fun b hb => by simp only [List.nil_append, List.mem_append] at hb ⊢; simp [hb]) | exact K0.out.mono (fun b hb => by simp at hb))) rfl)).mono ?_; rintro e w9 ⟨rfl, rfl⟩)
    | (go_at_call 50; refine (apSteps_none G _ (cell_blk (BN.out _ (by first | exact K0.out | exact K0.out.mono (fun b hb => by simp only [List.nil_append, List.mem_append] at hb ⊢; simp [hb]) | exact K0.out.mono (fun b hb => by simp at hb))) rfl)).mono ?_; rintro e w9 ⟨rfl, rfl⟩)
    | (go_at_call 51; refine (apRows_none G _ (cell_blk (BN.out _ (by first | exact K0.out | exact K0.out.mono (fun b hb => by simp only [List.nil_append, List.mem_append] at hb ⊢; simp [hb]) | exact K0.out.mono (fun b hb => by simp at hb))) rfl)).mono ?_; rintro e w9 ⟨rfl, rfl⟩))
  all_goals
    go_ret
    exact ⟨rfl, K0.out.mono (fun b hb => by simpa only [List.nil_append, List.append_assoc] using hb)⟩
end Go.Proofs.YtkonfogebepccaaGreatDoor
