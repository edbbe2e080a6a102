/-
  What both loads make is the same; both wirings side by side.
-/
import Derived.Test.YthbobooiedcofaaWirWorks
import Derived.Test.YthbobooiedcofaaAudC
import Derived.Test.YthbobooiedcofaaLoadMuch
import Derived.Test.YthbobooiedcofaaRAudB
import Derived.Test.YthbobooiedcofaaWirTwo
import Derived.Deep.RegionHeld3
import Derived.Test.YthbobooiedcofaaRef03K
import Derived.Test.YthbobooiedcofaaStoreG
import Derived.Test.YthbobooiedcofaaEqN
import Derived.Deep.QuietTactic
import Derived.BigQuiet
import Derived.Test.YthbobooiedcofaaRLoadC
import Derived.Test.YthbobooiedcofaaRWirOpen
import Derived.Test.YthbobooiedcofaaRWirPut
/-
  Both wirings side by side: words put, cells given back, audits; skeinlaw10.tells.
-/
/-
  Audit: of any agents; of a wiring that is none; skeinlaw10.works.
-/
/-
  A wiring that is none: no pointer, or no arena.
-/
namespace Go.Proofs.Ythbobooiedcofaa
open Go.RowKit
attribute [local go_sem] cell_set
set_option maxRecDepth 100000
set_option linter.unusedVariables false

/-- A pointer to a wiring that is none, from a world on. -/
def NoW (w : World) (p : Value) : Prop := ∀ Z, Below w.heap.size w Z → Calls Try.prog 62 #[p] Z fun e w' => e = .returned (.bool true) ∧ Z = w'
theorem NoW.below {w w' : World} {p : Value} (h : NoW w p) (hb : Below w.heap.size w w') : NoW w' p := fun Z hZ => h Z (hb.trans (hZ.mono hb.size))
section
variable (p : Value) (w : World)
end
end Go.Proofs.Ythbobooiedcofaa
namespace Go.Proofs.Ythbobooiedcofaa
open Go.RowKit
attribute [local go_sem] cell_set
set_option maxRecDepth 100000
set_option linter.unusedVariables false

theorem audit_is (As : Option Addr) (n cap : Nat) (L : List (ByteArray × Int)) (B A : Nat) (S : Wir) (FA : List Nat) (w : World) (hn : n = L.length) (hcap : L.length ≤ cap) (HL : Hid (AgRd w As L)) (hl : L.length ≤ maxLen) (hG : Hid (WG w B A S FA)) :
    Calls Try.prog 33 #[.slice As n cap, .pointer (some ⟨B, 0, none⟩)] w (AuPost S (portsN L) (chk L).1 w) := by
  by_cases hz : (chk L).1 = 0
  · exact audit_main As n cap L B A S FA w hn hcap HL hl hG hz
  · exact audit_sig As n cap L B A S FA w hn hcap HL hl hG hz
section
variable {w0 W : World} {B A : Nat} {S : Wir}
/-- What an arena's change leaves: every box of another type. -/
def KTy (W W' : World) : Prop := ∀ (b : Nat) (cs : Array Value) (t : TypeId) (c : Nat × Nat), W.heap[b]? = some (Obj.cells cs t c) → t ≠ 118 → t ≠ 150 → t ≠ 3 → W'.heap[b]? = some (Obj.cells cs t c)
theorem kty_of {W W' : World} {A : Nat} {S : Ars} {F : List Nat} (h : PA W A S F) (hk : Kp F W W') : KTy W W' := by
  intro b cs t c hb h1 h2 h3
  refine (hk.block b (heap_lt hb) (fun hm => ?_)).trans hb
  obtain ⟨c', t', hh, ht⟩ := h.tys b hm
  rw [hb] at hh
  injection hh with hh
  injection hh with _ hh _
  subst hh
  rcases ht with ht | ht | ht
  · exact h1 ht
  · exact h2 ht
  · exact h3 ht
theorem ow_put (h : OW w0 B A S W) (c s v : Int) (hv : 0 ≤ v ∧ v < 4294967296) : Calls Try.prog 47 #[.pointer (some ⟨A, 0, none⟩), .int .i64 c, .int .i64 s, .int .u32 v] W fun e w' => e = .returned (.int .i64 (S.A.slotE c s)) ∧ OW w0 B A { S with A := S.A.put c s v } w' ∧ KTy W w' := by
  obtain ⟨⟨FA, hg, hf⟩, hw⟩ := h
  exact (ar_put A S.A FA c s v hv W hg.pa).mono fun e w' ⟨he, h1, h2, _⟩ => ⟨he, OW.step hw hf ⟨FA, hg.ofA h1 h2, fun b hb => .inl hb⟩ (h2.mono fun b hb => List.mem_cons_of_mem _ hb), kty_of hg.pa h2⟩
theorem ow_arena (h : OW w0 B A S W) : Calls Try.prog 15 #[.pointer (some ⟨B, 0, none⟩)] W fun e w' => e = .returned (.pointer (some ⟨A, 0, none⟩)) ∧ W = w' := by
  obtain ⟨⟨FA, hg, hf⟩, hw⟩ := h
  exact wi_arena B A S FA W hg
theorem ow_audit (h : OW w0 B A S W) (As : Option Addr) (n cap : Nat) (L : List (ByteArray × Int)) (hn : n = L.length) (hcap : L.length ≤ cap) (HL : Hid (AgRd W As L)) (hl : L.length ≤ maxLen) :
    Calls Try.prog 33 #[.slice As n cap, .pointer (some ⟨B, 0, none⟩)] W fun e w' => e = .returned (.tuple #[audAgg (S.auditV (portsN L) (chk L).1).1, .int .i64 (S.auditV (portsN L) (chk L).1).2]) ∧ OW w0 B A S w' ∧ Below W.heap.size W w' := by
  obtain ⟨⟨FA, hg, hf⟩, hw⟩ := h
  refine (audit_is As n cap L B A S FA W hn hcap HL hl (Lib.hid hg)).mono ?_
  rintro e w' ⟨he, hb⟩
  exact ⟨he, OW.kept ⟨⟨FA, hg, hf⟩, hw⟩ hb, hb⟩
end
def S9p : Wir := { S9 with A := S9.A.put 0 1 4294967295 }
theorem aud9 : S9.auditV (portsN L3) (chk L3).1 = ((2, 1, 2, 0, (0, 0)), 0) := by rw [chk3]; decide +kernel
theorem aud9p : S9p.auditV (portsN L3) (chk L3).1 = ((0, 0, 0, 0, (1, 0)), 42) := by rw [chk3]; decide +kernel
theorem works10 (w : World) : Calls Try.prog 35 #[] w fun e w' => e = .returned (.bool true) ∧ Below w.heap.size w w' := by
  go_enter Try.func35, Try.ntmps35
  go_upto_region 3 with fail
  refine absW (fun X => Lit9 w.heap.size X ∧ Below w.heap.size w X) ⟨heap4 w _ _ _ _, by (repeat (first | exact Below.refl _ _ | (with_reducible refine Below.drew ?_) | (with_reducible refine Below.alloc ?_ (by (try simp); (try omega)) _) | (with_reducible refine Below.setCell ?_ (by (try simp); (try omega)) _) | (with_reducible refine Below.trans ?_ (Below.mono (by assumption) (by (try simp); (try omega))))))⟩ ?_
  rintro X ⟨hlit, hbx⟩
  have HL := Lib.hid hlit
  have HB := Lib.hid hbx
  have n0 : X.cell? ⟨w.heap.size + 3, 0, none⟩ = some (.slice (some ⟨w.heap.size + 1, 0, none⟩) 2 2) := by simp [World.cell?, hlit.2.2.2]
  have n1 : X.cell? ⟨w.heap.size + 3, 1, none⟩ = some (.int .i64 1) := by simp [World.cell?, hlit.2.2.2]
  have n2 : X.cell? ⟨w.heap.size + 3, 2, none⟩ = some (.slice (some ⟨w.heap.size + 2, 0, none⟩) 2 2) := by simp [World.cell?, hlit.2.2.2]
  clear hlit hbx
  go_wp2_with fail
  refine (lit9_load HL.out).mono ?_
  rintro e w1 ⟨B, A, rfl, ho⟩
  have HO := Lib.hid ho
  have HL1 := Lib.hid (HL.out.below ho.b)
  clear n0 n1 n2 ho
  go_wp2_with fail
  refine (ow_audit HO.out (some ⟨w.heap.size, 0, none⟩) 2 2 L3 rfl (by decide) (Lib.hid (ag_lit HL1.out.1)) (by decide)).mono ?_
  rw [aud9]
  rintro e w2 ⟨rfl, ho2, hb2⟩
  have HO2 := Lib.hid ho2
  have HL2 := Lib.hid (HL1.out.below hb2)
  have HB2 := Lib.hid ((HB.out.trans (ho2.b.mono HB.out.size)))
  clear ho2 hb2
  simp only [audAgg]
  go_wp2_with fail
  refine (ow_arena (HO2.out.kept ((Below.refl _ _).alloc (Nat.le_refl _) _))).mono ?_
  rintro e w3 ⟨rfl, rfl⟩
  simp only []
  go_wp2_with fail
  refine (ow_put (HO2.out.kept ((Below.refl _ _).alloc (Nat.le_refl _) _)) 0 1 4294967295 (by decide)).mono ?_
  rintro e w3 ⟨rfl, ho3, hk3⟩
  have hr3 := hk3 _ _ _ _ (heap_alloc_new w2 (.cells #[.int .i64 2, .int .i64 1, .int .i64 2, .int .i64 0, .int .i64 0, .int .i64 0] 76)) (by decide) (by decide) (by decide)
  generalize w2.heap.size = br at hr3 ⊢
  have HO3 := Lib.hid ho3
  have HR3 := Lib.hid hr3
  have HL3 := Lib.hid (HL.out.below ho3.b)
  have HB3 := Lib.hid (HB.out.trans (ho3.b.mono HB.out.size))
  clear ho3 hr3 hk3
  simp only []
  go_wp2_with fail
  refine (ow_audit (S := S9p) HO3.out (some ⟨w.heap.size, 0, none⟩) 2 2 L3 rfl (by decide) (Lib.hid (ag_lit HL3.out.1)) (by decide)).mono ?_
  rw [aud9p]
  rintro e w4 ⟨rfl, ho4, hb4⟩
  have hr4 := (hb4.block _ (heap_lt HR3.out)).trans HR3.out
  have HB4 := Lib.hid (HB3.out.trans (hb4.mono HB3.out.size))
  have r0 : w4.cell? ⟨br, 0, none⟩ = some (.int .i64 2) := by simp [World.cell?, hr4]
  have r1 : w4.cell? ⟨br, 1, none⟩ = some (.int .i64 1) := by simp [World.cell?, hr4]
  have r2 : w4.cell? ⟨br, 2, none⟩ = some (.int .i64 2) := by simp [World.cell?, hr4]
  have r3 : w4.cell? ⟨br, 3, none⟩ = some (.int .i64 0) := by simp [World.cell?, hr4]
  have r4 : w4.cell? ⟨br, 4, none⟩ = some (.int .i64 0) := by simp [World.cell?, hr4]
  have r5 : w4.cell? ⟨br, 5, none⟩ = some (.int .i64 0) := by simp [World.cell?, hr4]
  have rl := heap_lt hr4
  clear ho4 hb4 hr4
  simp only [audAgg]
  go_wp2_with fail
  go_ret
  exact ⟨rfl, HB4.out.alloc HB4.out.size _⟩
end Go.Proofs.Ythbobooiedcofaa
namespace Go.Proofs.Ythbobooiedcofaa
open Go.RowKit
attribute [local go_sem] cell_set
attribute [local go_sem high] run_eql_port
set_option maxRecDepth 100000
set_option linter.unusedVariables false

section
variable {w0 W : World} {X : List Nat} {B A R Q : Nat} {S T : Wir}
theorem tw_put_l (h : TW w0 X B A R Q S T W) (c s v : Int) (hv : 0 ≤ v ∧ v < 4294967296) : Calls Try.prog 47 #[.pointer (some ⟨A, 0, none⟩), .int .i64 c, .int .i64 s, .int .u32 v] W fun e w' => (∃ r, e = .returned r) ∧ TW w0 X B A R Q { S with A := S.A.put c s v } T w' ∧ KQ X W w' := by
  obtain ⟨F, G, h⟩ := h
  obtain ⟨FA, rfl, hg⟩ := h.l
  exact (ar_put A S.A FA c s v hv W hg.pa).mono fun e w' ⟨he, h1, h2, _⟩ => ⟨⟨_, he⟩, h.stepL ⟨_, ⟨FA, rfl, hg.ofA h1 h2⟩, fun b hb => .inl hb⟩ (h2.mono fun b hb => List.mem_cons_of_mem _ hb)⟩
theorem tw_give_l (h : TW w0 X B A R Q S T W) (c : Int) : Calls Try.prog 49 #[.pointer (some ⟨A, 0, none⟩), .int .i64 c] W fun e w' => (∃ r, e = .returned r) ∧ TW w0 X B A R Q { S with A := S.A.give c } T w' ∧ KQ X W w' := by
  obtain ⟨F, G, h⟩ := h
  obtain ⟨FA, rfl, hg⟩ := h.l
  exact (ar_give A S.A FA c W hg.pa).mono fun e w' ⟨he, ⟨F', h1, hn⟩, h2⟩ => ⟨⟨_, he⟩, h.stepL ⟨_, ⟨F', rfl, hg.ofA h1 h2⟩, newBlocks hn⟩ (h2.mono fun b hb => List.mem_cons_of_mem _ hb)⟩
theorem tw_put_r (h : TW w0 X B A R Q S T W) (c s v : Int) (hv : 0 ≤ v ∧ v < 4294967296) : Calls Try.prog 48 #[.pointer (some ⟨Q, 0, none⟩), .int .i64 c, .int .i64 s, .int .u32 v] W fun e w' => (∃ r, e = .returned r) ∧ TW w0 X B A R Q S { T with A := T.A.put c s v } w' ∧ KQ X W w' := by
  obtain ⟨F, G, h⟩ := h
  obtain ⟨FA, rfl, hg⟩ := h.r
  obtain ⟨P, FR, rfl, hra, hput⟩ := hg.split
  exact (rr_put Q T.A FR c s v hv W hra).mono fun e w' ⟨he, h1, h2, _⟩ => ⟨⟨_, he⟩, h.stepR ⟨_, ⟨P ++ FR, rfl, hput _ _ _ h1 h2 (fun b hb => .inl hb)⟩, fun b hb => .inl hb⟩ (h2.mono fun b hb => List.mem_cons_of_mem _ (List.mem_append_right _ hb))⟩
theorem tw_give_r (h : TW w0 X B A R Q S T W) (c : Int) : Calls Try.prog 50 #[.pointer (some ⟨Q, 0, none⟩), .int .i64 c] W fun e w' => (∃ r, e = .returned r) ∧ TW w0 X B A R Q S { T with A := T.A.give c } w' ∧ KQ X W w' := by
  obtain ⟨F, G, h⟩ := h
  obtain ⟨FA, rfl, hg⟩ := h.r
  obtain ⟨P, FR, rfl, hra, hput⟩ := hg.split
  refine (rr_give Q T.A FR c W hra).mono fun e w' ⟨he, ⟨F', h1, hn⟩, h2⟩ => ⟨⟨_, he⟩, h.stepR ⟨_, ⟨P ++ F', rfl, hput _ _ _ h1 h2 hn⟩, newBlocks fun b hb => ?_⟩ (h2.mono fun b hb => List.mem_cons_of_mem _ (List.mem_append_right _ hb))⟩
  rcases List.mem_append.1 hb with hb | hb
  · exact .inl (List.mem_append_left _ hb)
  · rcases hn b hb with hb | hb
    · exact .inl (List.mem_append_right _ hb)
    · exact .inr hb
theorem tw_audit_l (h : TW w0 X B A R Q S T W) (As : Option Addr) (n cap : Nat) (L : List (ByteArray × Int)) (hn : n = L.length) (hcap : L.length ≤ cap) (HL : Hid (AgRd W As L)) (hl : L.length ≤ maxLen) :
    Calls Try.prog 33 #[.slice As n cap, .pointer (some ⟨B, 0, none⟩)] W fun e w' => e = .returned (.tuple #[audAgg (S.auditV (portsN L) (chk L).1).1, .int .i64 (S.auditV (portsN L) (chk L).1).2]) ∧ TW w0 X B A R Q S T w' ∧ Below W.heap.size W w' := by
  obtain ⟨F, G, h⟩ := h
  obtain ⟨FA, _, hg⟩ := h.l
  exact (audit_is As n cap L B A S FA W hn hcap HL hl (Lib.hid hg)).mono fun e w' ⟨he, hb⟩ => ⟨he, TW.kept ⟨F, G, h⟩ hb, hb⟩
theorem tw_audit_r (h : TW w0 X B A R Q S T W) (As : Option Addr) (n cap : Nat) (L : List (ByteArray × Int)) (hn : n = L.length) (hcap : L.length ≤ cap) (HL : Hid (AgRd W As L)) (hl : L.length ≤ maxLen) :
    Calls Try.prog 102 #[.slice As n cap, .pointer (some ⟨R, 0, none⟩)] W fun e w' => e = .returned (.tuple #[audAgg (T.auditV (portsN L) (chk L).1).1, .int .i64 (T.auditV (portsN L) (chk L).1).2]) ∧ TW w0 X B A R Q S T w' ∧ Below W.heap.size W w' := by
  obtain ⟨F, G, h⟩ := h
  obtain ⟨GA, _, hg⟩ := h.r
  exact (raudit_is R Q T GA As n cap L W hn hcap HL hl (Lib.hid hg)).mono fun e w' ⟨he, hb⟩ => ⟨he, TW.kept ⟨F, G, h⟩ hb, hb⟩
end
section
variable {w0 W : World} {X : List Nat} {B A R Q : Nat} {S : Wir}
set_option maxHeartbeats 4000000 in
theorem tells_is (h : TW w0 X B A R Q S S W) (As : Option Addr) (n cap : Nat) (L : List (ByteArray × Int)) (hn : n = L.length) (hcap : L.length ≤ cap) (HL : Hid (AgRd W As L)) (hl : L.length ≤ maxLen) :
    Calls Try.prog 54 #[.slice As n cap, .pointer (some ⟨B, 0, none⟩), .pointer (some ⟨R, 0, none⟩)] W fun e w' => e = .returned (.bool true) ∧ TW w0 X B A R Q S S w' ∧ Below W.heap.size W w' := by
  subst hn
  have HT := Lib.hid h
  obtain ⟨⟨⟨vc, vf, vx, vo, vp⟩, ve⟩, hv⟩ : ∃ v, S.auditV (portsN L) (chk L).1 = v := ⟨_, rfl⟩
  have HV := Lib.hid hv
  clear h hv
  go_enter Try.func54, Try.ntmps54
  go_wp2_with fail
  refine (tw_audit_l HT.out As _ cap L rfl hcap HL hl).mono ?_
  rw [HV.out]
  rintro e w1 ⟨rfl, ht1, hb1⟩
  have H1 := Lib.hid (And.intro ht1 hb1)
  clear ht1 hb1
  simp only [audAgg]
  go_wp2_with fail
  refine (tw_audit_r (H1.out.1.kept (by (repeat (first | exact Below.refl _ _ | (with_reducible refine Below.drew ?_) | (with_reducible refine Below.alloc ?_ (by (try simp); (try omega)) _) | (with_reducible refine Below.setCell ?_ (by (try simp); (try omega)) _) | (with_reducible refine Below.trans ?_ (Below.mono (by assumption) (by (try simp); (try omega)))))))) As _ cap L rfl hcap (Lib.hid (HL.out.below (by have := H1.out.2; have := H1.out.2.size; (repeat (first | exact Below.refl _ _ | (with_reducible refine Below.drew ?_) | (with_reducible refine Below.alloc ?_ (by (try simp); (try omega)) _) | (with_reducible refine Below.setCell ?_ (by (try simp); (try omega)) _) | (with_reducible refine Below.trans ?_ (Below.mono (by assumption) (by (try simp); (try omega))))))))) hl).mono ?_
  rw [HV.out]
  rintro e w2 ⟨rfl, ht2, hb2⟩
  have hr0 := (hb2.block w1.heap.size (by simp)).trans (heap_alloc_new w1 _)
  have H2 : Hid (TW w0 X B A R Q S S w2 ∧ Below W.heap.size W w2) := ⟨ht2, by have := H1.out.2; have := H1.out.2.size; (repeat (first | exact Below.refl _ _ | (with_reducible refine Below.drew ?_) | (with_reducible refine Below.alloc ?_ (by (try simp); (try omega)) _) | (with_reducible refine Below.setCell ?_ (by (try simp); (try omega)) _) | (with_reducible refine Below.trans ?_ (Below.mono (by assumption) (by (try simp); (try omega))))))⟩
  have HR0 := Lib.hid hr0
  obtain ⟨b1, hb1⟩ : ∃ b1, w1.heap.size = b1 := ⟨_, rfl⟩
  rw [hb1] at HR0 ⊢
  clear ht2 hb2 hr0 hb1
  have hr0 := HR0.out
  have c0 : w2.cell? ⟨b1, 0, none⟩ = some (.int .i64 vc) := by simp [World.cell?, hr0]
  have c1 : w2.cell? ⟨b1, 1, none⟩ = some (.int .i64 vf) := by simp [World.cell?, hr0]
  have c2 : w2.cell? ⟨b1, 2, none⟩ = some (.int .i64 vx) := by simp [World.cell?, hr0]
  have c3 : w2.cell? ⟨b1, 3, none⟩ = some (.int .i64 vo) := by simp [World.cell?, hr0]
  have c4 : w2.cell? ⟨b1, 4, none⟩ = some (.int .i64 vp.1) := by simp [World.cell?, hr0]
  have c5 : w2.cell? ⟨b1, 5, none⟩ = some (.int .i64 vp.2) := by simp [World.cell?, hr0]
  have cl := heap_lt hr0
  have hpp : eqP (vp.1, vp.2) (vp.1, vp.2) = true := by simp [eqP]
  clear hr0
  simp only [audAgg]
  go_wp2_with fail
  go_ret
  exact ⟨rfl, H2.out.1.kept (by (repeat (first | exact Below.refl _ _ | (with_reducible refine Below.drew ?_) | (with_reducible refine Below.alloc ?_ (by (try simp); (try omega)) _) | (with_reducible refine Below.setCell ?_ (by (try simp); (try omega)) _) | (with_reducible refine Below.trans ?_ (Below.mono (by assumption) (by (try simp); (try omega))))))), by have := H2.out.2; have := H2.out.2.size; (repeat (first | exact Below.refl _ _ | (with_reducible refine Below.drew ?_) | (with_reducible refine Below.alloc ?_ (by (try simp); (try omega)) _) | (with_reducible refine Below.setCell ?_ (by (try simp); (try omega)) _) | (with_reducible refine Below.trans ?_ (Below.mono (by assumption) (by (try simp); (try omega))))))⟩
end
end Go.Proofs.Ythbobooiedcofaa
/-
  Contracts of skeinref00.WideWires, SpareWires, WideNet, SpareNet.
-/
/-
  Contracts of skeinref00.num, WideInts, SpareInts.
-/
/-
  Rows of ports and of ints that 'make' makes; a list of ints, filled so far.
-/
namespace Go.Proofs.Ythbobooiedcofaa
open Go.RowKit
attribute [local go_sem] cell_set
set_option maxRecDepth 100000
set_option linter.unusedVariables false

end Go.Proofs.Ythbobooiedcofaa
namespace Go.Proofs.Ythbobooiedcofaa
open Go.RowKit
attribute [local go_sem] cell_set
set_option maxRecDepth 100000
set_option linter.unusedVariables false

def markN (n i : Nat) : Int := 1048576 * n + i + 1
/-- A list with marks behind it. -/
def wideL (l : List Int) : List Int := l ++ (List.range 64).map fun (i : Nat) => markN 9 (l.length + i)
theorem wideL_len (l : List Int) : (wideL l).length = l.length + 64 := by simp [wideL]
theorem wideL_lo {l : List Int} {i : Nat} (h : i < l.length) : (wideL l).getD i 0 = l.getD i 0 := by simp [wideL, List.getD_eq_getElem?_getD, List.getElem?_append_left h]
end Go.Proofs.Ythbobooiedcofaa
namespace Go.Proofs.Ythbobooiedcofaa
open Go.RowKit
attribute [local go_sem] cell_set
attribute [local go_sem high] run_eql_wire
set_option maxRecDepth 100000
set_option linter.unusedVariables false

def wideW (l : List (Pt × Pt)) : List (Pt × Pt) := l ++ (List.range 64).map fun (i : Nat) => (((0 : Int), (0 : Int)), ((0 : Int), markN 9 (l.length + i)))
theorem wideW_len (l : List (Pt × Pt)) : (wideW l).length = l.length + 64 := by simp [wideW]
theorem wideW_lo {l : List (Pt × Pt)} {i : Nat} (h : i < l.length) : (wideW l).getD i default = l.getD i default := by simp [wideW, List.getD_eq_getElem?_getD, List.getElem?_append_left h]
theorem wideW_hi {l : List (Pt × Pt)} {i : Nat} (h : l.length ≤ i) (h2 : i < l.length + 64) : (wideW l).getD i default = ((0, 0), (0, markN 9 i)) := by
  have : i - l.length < 64 := by omega
  simp [wideW, List.getD_eq_getElem?_getD, List.getElem?_append_right h, this]
  congr 1
  omega
theorem Row.wide {w : World} {g m : Nat} {l : List (Pt × Pt)} (hR : Row w 55 4 (.slice (some ⟨g, 0, none⟩) m m) m (wrvals (wideW l))) (hm : m = l.length + 64) {k : Nat} (h1 : l.length ≤ k) (h2 : k < m) :
    w.cell? ⟨g, k * 4, none⟩ = some (.int .i64 0) ∧ w.cell? ⟨g, k * 4 + 1, none⟩ = some (.int .i64 0) ∧ w.cell? ⟨g, k * 4 + 2, none⟩ = some (.int .i64 0) ∧ w.cell? ⟨g, k * 4 + 3, none⟩ = some (.int .i64 (markN 9 k)) := by
  have hk : k < (wideW l).length := by rw [wideW_len]; omega
  obtain ⟨a0, a1, a2, a3⟩ := wrvals_at (wideW l) hk
  rw [wideW_hi h1 (by omega)] at a0 a1 a2 a3
  exact ⟨(hR.cellAt _ (by omega)).trans a0, (hR.cellAt _ (by omega)).trans a1, (hR.cellAt _ (by omega)).trans a2, (hR.cellAt _ (by omega)).trans a3⟩
/-- A net with marks behind its lists. -/
def WideN (w : World) (g1 g2 : Nat) (cells : List Int) (W : List (Pt × Pt)) : Prop := Row w 3 1 (.slice (some ⟨g1, 0, none⟩) (cells.length + 64) (cells.length + 64)) (cells.length + 64) (ivals (wideL cells)) ∧ Row w 55 4 (.slice (some ⟨g2, 0, none⟩) (W.length + 64) (W.length + 64)) (W.length + 64) (wrvals (wideW W))
theorem WideN.below {w w' : World} {g1 g2 : Nat} {cells : List Int} {W : List (Pt × Pt)} (h : WideN w g1 g2 cells W) (hb : Below w.heap.size w w') : WideN w' g1 g2 cells W := ⟨h.1.keep fun b hm => hb.block b (h.1.lt b hm), h.2.keep fun b hm => hb.block b (h.2.lt b hm)⟩
theorem WideN.ints {w : World} {g1 g2 : Nat} {cells : List Int} {W : List (Pt × Pt)} (h : WideN w g1 g2 cells W) : IntsRd w (some ⟨g1, 0, none⟩) cells := fun i hi => by
  refine ⟨g1, 0, rfl, h.1.lt g1 (by simp [ownB]), ?_⟩
  rw [Nat.zero_add, h.1.cellAt i (by omega)]
  have h2 := wideL_lo hi
  have h3 : i < (wideL cells).length := by rw [wideL_len]; omega
  simp only [List.getD_eq_getElem?_getD, List.getElem?_eq_getElem h3, Option.getD_some] at h2
  simp [ivals, h3, h2, List.getD_eq_getElem?_getD]
theorem WideN.wires {w : World} {g1 g2 : Nat} {cells : List Int} {W : List (Pt × Pt)} (h : WideN w g1 g2 cells W) : WrRd w (some ⟨g2, 0, none⟩) W := fun i hi => by
  have h3 : i < (wideW W).length := by rw [wideW_len]; omega
  obtain ⟨a0, a1, a2, a3⟩ := wrvals_at (wideW W) h3
  rw [wideW_lo hi] at a0 a1 a2 a3
  refine ⟨g2, 0, rfl, h.2.lt g2 (by simp [ownB]), ?_, ?_, ?_, ?_⟩
  · rw [Nat.zero_add, h.2.cellAt _ (by omega)]; exact a0
  · rw [Nat.zero_add, h.2.cellAt _ (by omega)]; exact a1
  · rw [Nat.zero_add, h.2.cellAt _ (by omega)]; exact a2
  · rw [Nat.zero_add, h.2.cellAt _ (by omega)]; exact a3
end Go.Proofs.Ythbobooiedcofaa
/-
  The statement LoadNets: its walk.
-/
namespace Go.Proofs.Ythbobooiedcofaa
open Go.RowKit
attribute [local go_sem] cell_set
attribute [local go_sem high] run_neq_port
set_option maxRecDepth 100000
set_option linter.unusedVariables false

theorem put_most (S : Wir) (p : Pt) (v : Int) : (S.put p v).A.most = S.A.most := by
  unfold Wir.put
  by_cases e : p.1 = -1
  · rw [if_pos e]
  · rw [if_neg e]
    show (S.A.put p.1 p.2 v).most = _
    unfold Ars.put
    cases S.A.cell p.1 with
    | none => rfl
    | some x => simp only; split <;> rfl
theorem link_most (S : Wir) (p q : Pt) : (S.link p q).A.most = S.A.most := by
  unfold Wir.link
  split
  · unfold Wir.join; rw [put_most, put_most]
  · rfl
theorem linkAll_most : ∀ (W : List (Pt × Pt)) (S : Wir), (S.linkAll W).A.most = S.A.most
  | [], _ => rfl
  | x :: r, S => by
    show ((S.link x.1 x.2).linkAll r).A.most = _
    rw [linkAll_most r, link_most]
/-- What LoadNets keeps. -/
structure LK (w : World) (VA VB : Option Addr) (na ca nW cb : Nat) (fr : Int) (B A : Nat) (S1 : Wir) (R RA' : Nat) (S2 : Wir) (X : World) : Prop where
  b : Below w.heap.size w X
  n : NBox X w.heap.size VA na ca fr VB nW cb
  p : OW w B A S1 X
  r : OX w R RA' S2 X
theorem LK.kept {w : World} {VA VB : Option Addr} {na ca nW cb : Nat} {fr : Int} {B A : Nat} {S1 : Wir} {R RA' : Nat} {S2 : Wir} {X X' : World} (h : LK w VA VB na ca nW cb fr B A S1 R RA' S2 X) (hb : Below X.heap.size X X') : LK w VA VB na ca nW cb fr B A S1 R RA' S2 X' :=
  ⟨h.b.trans (hb.mono h.b.size), h.n.below hb, h.p.kept hb, h.r.kept hb⟩
theorem OW.from {w0 w W : World} {B A : Nat} {S : Wir} (h : OW w B A S W) (hb : Below w0.heap.size w0 w) : OW w0 B A S W := by
  obtain ⟨⟨FA, hg, hf⟩, hw⟩ := h
  exact ⟨⟨FA, hg, fun b hb' => Nat.le_trans hb.size (hf b hb')⟩, hb.trans (hw.mono hb.size)⟩
theorem OX.from {w0 w W : World} {B A : Nat} {S : Wir} (h : OX w B A S W) (hb : Below w0.heap.size w0 w) : OX w0 B A S W := by
  obtain ⟨⟨FA, hg, hf⟩, hw⟩ := h
  exact ⟨⟨FA, hg, fun b hb' => Nat.le_trans hb.size (hf b hb')⟩, hb.trans (hw.mono hb.size)⟩
/-- What the law compares, of a net that may be. -/
structure LSame (L : List (ByteArray × Int)) (cells : List Int) (f m : Nat) (S1 S2 : Wir) : Prop where
  n1 : LN (pnL L) cells f S1
  n2 : LN (pnL L) cells f S2
  most : S1.A.most = m
  opens : S1.openN S1.pts = 0
  lead : ∀ p ∈ S2.pts, S1.toE p = 0 ∧ S2.toE p = 0 ∧ S1.toP p = S2.toP p
theorem loadE_ok {L : List (ByteArray × Int)} {cells : List Int} {fr : Int} {W : List (Pt × Pt)} {most : Int} (h : loadE L cells fr W most = 0) : (netChk (pnL L) L.length (chk L) cells fr W).1 = 0 ∧ 1 ≤ most ∧ most ≤ 4096 ∧ (cells.length : Int) ≤ most := by
  unfold loadE at h
  by_cases h1 : (netChk (pnL L) L.length (chk L) cells fr W).1 ≠ 0
  · rw [if_pos h1] at h; exact absurd h h1
  · rw [if_neg h1] at h
    by_cases h2 : most < 1 ∨ 4096 < most
    · rw [if_pos h2] at h; exact absurd h (by decide)
    · rw [if_neg h2] at h
      by_cases h3 : most < cells.length
      · rw [if_pos h3] at h; exact absurd h (by decide)
      · exact ⟨by simpa using h1, by omega, by omega, by omega⟩
section
variable (A : Option Addr) (n cap : Nat) (L : List (ByteArray × Int)) (VA VB : Option Addr) (ca cb : Nat) (cells : List Int) (fr : Int) (W : List (Pt × Pt)) (most : Int) (w : World)
end
end Go.Proofs.Ythbobooiedcofaa
namespace Go.Proofs.Ythbobooiedcofaa
open Go.RowKit
set_option maxRecDepth 100000
set_option linter.unusedVariables false

theorem LN.ext {pn : Int → Nat} {cells : List Int} {f : Nat} {S1 S2 : Wir} (h1 : LN pn cells f S1) (h2 : LN pn cells f S2) (hm : S1.A.most = S2.A.most) (hw : ∀ p, S1.wE p = 0 → S1.wV p = S2.wV p) : S1 = S2 := by
  have hP : S1.P = S2.P := by
    refine List.ext_getElem (by rw [h1.p, h2.p]) fun i a b => ?_
    have e1 : S1.wE (-1, (i : Int)) = 0 := by unfold Wir.wE; rw [if_pos rfl, if_neg (by simp; omega)]
    have := hw _ e1
    unfold Wir.wV at this
    rw [if_pos rfl, if_pos rfl, if_neg (by simp; omega), if_neg (by simp; omega)] at this
    simpa [List.getD_eq_getElem?_getD, a, b] using this
  have hC : S1.A.cells = S2.A.cells := by
    refine List.ext_getElem? fun i => ?_
    rcases Nat.lt_or_ge i cells.length with hi | hi
    · obtain ⟨ws1, c1, l1⟩ := h1.c i hi
      obtain ⟨ws2, c2, l2⟩ := h2.c i hi
      rw [c1, c2]
      have : ws1 = ws2 := by
        refine List.ext_getElem (by omega) fun j a b => ?_
        have d1 := Ars.slot_of (S := S1.A) (c := (i : Int)) (s := (j : Int)) (Ars.cell_at (by omega) c1) (by omega) (by omega)
        have d2 := Ars.slot_of (S := S2.A) (c := (i : Int)) (s := (j : Int)) (Ars.cell_at (by omega) c2) (by omega) (by omega)
        have e1 : S1.wE ((i : Int), (j : Int)) = 0 := by unfold Wir.wE; rw [if_neg (by simp <;> omega), if_pos d1.1]
        have := hw _ e1
        unfold Wir.wV at this
        rw [if_neg (by simp <;> omega), if_neg (by simp <;> omega), d1.2, d2.2] at this
        simpa [List.getD_eq_getElem?_getD, a, b] using this
      rw [this]
    · rw [List.getElem?_eq_none (by rw [h1.n]; exact hi), List.getElem?_eq_none (by rw [h2.n]; exact hi)]
  obtain ⟨⟨m1, c1, b1⟩, P1⟩ := S1
  obtain ⟨⟨m2, c2, b2⟩, P2⟩ := S2
  have q1 := h1.b
  have q2 := h2.b
  simp only at hP hC hm q1 q2
  subst hP hC hm q1 q2
  rfl
theorem load_same {L : List (ByteArray × Int)} {cells : List Int} {f m : Nat} {W : List (Pt × Pt)} (hs : SigOk L) (hag : ∀ j, j < cells.length → 0 ≤ cells.getD j 0 ∧ cells.getD j 0 < L.length) (hok : NetOk (pnL L) cells f W) (h1 : 1 ≤ m) (h2 : m ≤ 4096) (hl : cells.length ≤ m) (hf : f ≤ 64) :
    (Wir.new (tookA m (arL L) cells) f).linkAll (tidyW (allPs (pnL L) cells f) W) = (Wir.new (tookA m (arL L) cells) f).linkAll W := by
  obtain ⟨a1, a2, a3⟩ := loaded hs hag hok.tidy h1 h2 hl hf
  obtain ⟨b1, b2, _⟩ := loaded hs hag hok h1 h2 hl hf
  refine a1.ext b1 (by rw [linkAll_most, linkAll_most]) fun p hp => ?_
  rw [a2.e p] at hp
  have hi := allPs_mem.2 ((a3 p).1 hp)
  rw [a2.v p hp, b2.v p hp, hok.tidy_lnk hi]
theorem tw_of {w0 W W' : World} {X : List Nat} {B A R Q : Nat} {S T : Wir} (h1 : OW w0 B A S W) (h2 : OX W R Q T W') (hX : ∀ b ∈ X, b < w0.heap.size) : TW w0 X B A R Q S T W' := by
  obtain ⟨⟨FA, hg, hf⟩, hw⟩ := h1
  obtain ⟨⟨GA, hr, hq⟩, hw2⟩ := h2
  have hbl := hg.blt
  have hz := hw.size
  refine ⟨B :: FA, R :: GA, ⟨FA, rfl, hg.below hw2⟩, ⟨GA, rfl, hr⟩, fun b hb => ⟨hf b hb, fun hx => ?_, fun hm => ?_⟩, fun b hb => ⟨Nat.le_trans hz (hq b hb), fun hx => ?_⟩, fun b hx => ?_, hw.trans (hw2.mono hz)⟩
  · have := hX b hx; have := hf b hb; omega
  · have := hq b hm; have := hbl b hb; omega
  · have := hX b hx; have := hq b hb; omega
  · have := hX b hx; have := hw2.size; omega
end Go.Proofs.Ythbobooiedcofaa
