/- The walks of slices.Equal over a slice and itself, and of job.Same: of unlike numbers, and of one job. -/
import Derived.Test.YtceddjpaddcjiaaGreatDoorJob
namespace Go.Proofs.YtceddjpaddcjiaaGreatDoor
open Go.RowKit
/-- A row of numbers can be read. -/
def DepsAt (w : World) (dp : Option Addr) (dn : Nat) : Prop := dn = 0 ∨ ∃ b o, dp = some ⟨b, o, none⟩ ∧ ∀ i < dn, ∃ v, w.cell? ⟨b, o + i, none⟩ = some (.int .u64 v)
def depsBelow (n : Nat) (dp : Option Addr) (dn : Nat) : Prop := dn = 0 ∨ ∃ b o, dp = some ⟨b, o, none⟩ ∧ b < n
theorem bblk {n b : Nat} {w w' : World} (hb : Below n w w') (h : b < n) (o : Nat) : w'.cell? ⟨b, o, none⟩ = w.cell? ⟨b, o, none⟩ := by simp [World.cell?, hb.block b h]
theorem deps_keep {w w' : World} {n : Nat} {dp : Option Addr} {dn : Nat} (h : DepsAt w dp dn) (hl : depsBelow n dp dn) (hb : Below n w w') : DepsAt w' dp dn := by
  rcases h with h | ⟨b, o, rfl, h⟩
  · exact Or.inl h
  rcases hl with hl | ⟨b', o', e, hl⟩
  · exact Or.inl hl
  injection e with e
  injection e with e1 e2
  subst e1
  exact Or.inr ⟨b, o, rfl, fun i hi => by obtain ⟨v, hv⟩ := h i hi; exact ⟨v, (bblk hb hl _).trans hv⟩⟩
set_option maxHeartbeats 4000000 in
set_option maxRecDepth 100000 in
theorem equal_self (dp : Option Addr) (dn dc : Nat) (w : World) (hd : DepsAt w dp dn) (hn : dn ≤ 20) (n : Nat) (hw : n ≤ w.heap.size) (hl : depsBelow n dp dn) :
    Calls Tryz.prog 117 #[.slice dp dn dc, .slice dp dn dc] w fun e w' => e = .returned (.bool true) ∧ Below n w w' := by
  have HD := Lib.hid hd
  clear hd
  go_enter Tryz.func117, Tryz.ntmps117
  go_wp2_with fail
  go_loopg [13] 100 (fun g iv wr => ∃ (j : Nat), iv = .int .i64 j ∧ j ≤ dn ∧ dn - j ≤ g ∧ Below n w wr)
  case atStart => exact ⟨0, rfl, by omega, by omega, Below.refl _ _⟩
  case round =>
    obtain ⟨j, rfl, hj, hg, B⟩ := hrel
    by_cases hlt : j < dn
    · obtain ⟨b, o, rfl, hc⟩ := (deps_keep HD.out hl B).resolve_left (by omega)
      obtain ⟨v, hv⟩ := hc j hlt
      have hl2 : b < n := by
        rcases hl with hl | ⟨b', o', e, hl⟩
        · omega
        · injection e with e
          injection e with e1 e2
          omega
      clear hc
      go_wp2_with fail
      have hv2 := fun u : Later wr => Later.cellp hv u
      have hs := B.size
      refine region_later (by kernel_rfl) (by kernel_rfl) ?_
      repeat (go_big_quiet_step (fail))
      refine wpQuiet_nil ?_
      rintro _ ⟨u, rfl⟩
      have B2 := via B (by omega) u.below
      go_wp2
      go_roundg (gk - 1)
      case measure => omega
      case rel => exact ⟨j + 1, by go_num, by omega, by omega, B2⟩
    · go_wp2
      go_ret
      exact ⟨rfl, B⟩

theorem deps_mono {n m : Nat} {dp : Option Addr} {dn : Nat} (h : n ≤ m) (hl : depsBelow n dp dn) : depsBelow m dp dn := by
  rcases hl with hl | ⟨b, o, e, hl⟩
  · exact Or.inl hl
  · exact Or.inr ⟨b, o, e, by omega⟩
set_option maxHeartbeats 40000000 in
set_option maxRecDepth 100000 in
theorem same_no (a b : Jb) (w : World) (h : a.id ≠ b.id) :
    Calls Tryz.prog 86 #[jbV a, jbV b] w fun e w' => e = .returned (.bool false) ∧ Below w.heap.size w w' := by
  have B := al (a0 w (jbO a)) (jbO b)
  have A0 := blk_alloc (o' := jbO b) (blk_new w (jbO a))
  have B0 := blk_new (w.alloc (jbO a)) (jbO b)
  rw [World.size_alloc] at B0
  have h' : (a.id == b.id) = false := by simpa using h
  clear h
  obtain ⟨id, name, expr, pol, gr, lim, ret, tmo, dp, dn, dc, pau, ver, seen⟩ := a
  obtain ⟨id', name', expr', pol', gr', lim', ret', tmo', dp', dn', dc', pau', ver', seen'⟩ := b
  go_enter Tryz.func86, Tryz.ntmps86
  iterate 14 (first | go_values | go_skip | go_guarded | go_step | go_upon | go_in | go_back)
  generalize (w.alloc _).alloc _ = W at *
  have ac := blk_cell A0
  have bc := blk_cell B0
  go_wp2
  go_ret
  exact ⟨rfl, B⟩
set_option maxHeartbeats 40000000 in
set_option maxRecDepth 100000 in
theorem same_self (a : Jb) (w : World) (hd : DepsAt w a.dp a.dn) (hl : depsBelow w.heap.size a.dp a.dn) (hn : a.dn ≤ 20) :
    Calls Tryz.prog 86 #[jbV a, jbV a] w fun e w' => e = .returned (.bool true) ∧ Below w.heap.size w w' := by
  have B := al (a0 w (jbO a)) (jbO a)
  have A0 := blk_alloc (o' := jbO a) (blk_new w (jbO a))
  have B0 := blk_new (w.alloc (jbO a)) (jbO a)
  rw [World.size_alloc] at B0
  have D := deps_keep hd hl B
  have hs := B.size
  obtain ⟨id, name, expr, pol, gr, lim, ret, tmo, dp, dn, dc, pau, ver, seen⟩ := a
  have HD := Lib.hid D
  have HL := Lib.hid hl
  clear D hd hl
  go_enter Tryz.func86, Tryz.ntmps86
  iterate 14 (first | go_values | go_skip | go_guarded | go_step | go_upon | go_in | go_back)
  generalize (w.alloc _).alloc _ = W at *
  have ac := blk_cell A0
  have bc := blk_cell B0
  have hz := blk_lt B0
  go_wp2_with (go_at_call 117; refine (equal_self _ _ _ _ HD.out hn _ (Nat.le_refl _) (deps_mono hs HL.out)).mono ?_; rintro e w2 ⟨rfl, hb⟩; have B := vi B hb; have ac := blk_cell (blk_keep A0 hb); have bc := blk_cell (blk_keep B0 hb); clear hb)
  go_ret
  exact ⟨rfl, B⟩
end Go.Proofs.YtceddjpaddcjiaaGreatDoor
