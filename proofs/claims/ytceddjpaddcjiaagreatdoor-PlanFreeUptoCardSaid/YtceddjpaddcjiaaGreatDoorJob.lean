/- The walks of job.May and job.Same. -/
import Derived.Test.YtceddjpaddcjiaaGreatDoorCParse
namespace Go.Proofs.YtceddjpaddcjiaaGreatDoor
open Go.RowKit
structure Jb where
  id : Int
  name : ByteArray
  expr : ByteArray
  pol : Int
  gr : Int
  lim : Int
  ret : Int
  tmo : Int
  dp : Option Addr
  dn : Nat
  dc : Nat
  pau : Bool
  ver : Int
  seen : Int
abbrev jbC (j : Jb) : List Value := [.int .u64 j.id, .string j.name, .string j.expr, .int .i64 j.pol, .int .i64 j.gr, .int .i64 j.lim, .int .i64 j.ret, .int .i64 j.tmo, .slice j.dp j.dn j.dc, .bool j.pau, .int .u64 j.ver, .int .i64 j.seen]
abbrev jbV (j : Jb) : Value := .agg #[.int .u64 j.id, .string j.name, .string j.expr, .int .i64 j.pol, .int .i64 j.gr, .int .i64 j.lim, .int .i64 j.ret, .int .i64 j.tmo, .slice j.dp j.dn j.dc, .bool j.pau, .int .u64 j.ver, .int .i64 j.seen]
abbrev jbO (j : Jb) : Obj := .cells #[.int .u64 j.id, .string j.name, .string j.expr, .int .i64 j.pol, .int .i64 j.gr, .int .i64 j.lim, .int .i64 j.ret, .int .i64 j.tmo, .slice j.dp j.dn j.dc, .bool j.pau, .int .u64 j.ver, .int .i64 j.seen] 37
def argBad (j : Jb) : Prop := j.pol < 1 ∨ 3 < j.pol ∨ j.gr < 0 ∨ 604800 < j.gr ∨ j.lim < 1 ∨ 8 < j.lim ∨ j.ret < 0 ∨ 5 < j.ret ∨ j.tmo < 1 ∨ 86400 < j.tmo ∨ j.seen < -1 ∨ 13569465600 ≤ j.seen
instance (j : Jb) : Decidable (argBad j) := by unfold argBad; infer_instance
/-- What is wrong with a job: the error's number. -/
def mayJ (j : Jb) : Int :=
  if j.name.size < 1 ∨ 32 < j.name.size then 140
  else if (cronF j.expr).2 ≠ 0 then (cronF j.expr).2
  else if 8 < j.dn then 3
  else if argBad j then 2 else 0
set_option maxHeartbeats 4000000 in
set_option maxRecDepth 100000 in
theorem jmay_any (j : Jb) (w : World) (hE : Env w) :
    Calls Tryz.prog 63 #[jbV j] w fun e w' => e = .returned (.int .i64 (mayJ j)) ∧ Below w.heap.size w w' := by
  have HE := Lib.hid hE
  clear hE
  have J0 := blk_new w (jbO j)
  have B := a0 w (jbO j)
  have jc := blk_cell J0
  obtain ⟨id, name, expr, pol, gr, lim, ret, tmo, dp, dn, dc, pau, ver, seen⟩ := j
  generalize hq : mayJ _ = q
  unfold mayJ at hq
  by_cases h1 : name.size < 1 ∨ 32 < name.size
  · rw [if_pos h1] at hq
    subst hq
    go_enter Tryz.func63, Tryz.ntmps63
    rcases (show name.size < 1 ∨ (1 ≤ name.size ∧ 32 < name.size) by omega) with h1 | ⟨h1, h2⟩
    all_goals
      go_wp2
      go_ret
      exact ⟨rfl, B⟩
  rw [if_neg h1] at hq
  have h2 : 1 ≤ name.size := by omega
  have h3 : name.size ≤ 32 := by omega
  clear h1
  have Hq := Lib.hid hq
  clear hq
  go_enter Tryz.func63, Tryz.ntmps63
  go_wp2_with fail
  generalize w.alloc _ = W at *
  refine (cparse_any expr _ (env_keep HE.out B)).mono ?_
  rintro e w1 ⟨rfl, hb⟩
  have B := vi B hb
  have J1 := blk_keep J0 hb
  clear hb J0
  have hq := Hq.out
  clear Hq
  generalize cronF expr = c at *
  obtain ⟨x, er⟩ := c
  have jc := blk_cell J1
  have hz := blk_lt J1
  have B2 := al B (exO x)
  have J2 := blk_alloc (o' := exO x) J1
  by_cases he : er = 0
  rotate_left
  · rw [if_pos he] at hq
    subst hq
    have hne : (er != 0) = true := by simpa using he
    go_wp2
    go_ret
    exact ⟨rfl, B2⟩
  subst he
  rw [if_neg (by simp)] at hq
  by_cases h8 : 8 < dn
  · rw [if_pos h8] at hq
    subst hq
    go_wp2
    go_ret
    exact ⟨rfl, B2⟩
  rw [if_neg h8] at hq
  replace h8 : dn ≤ 8 := by omega
  clear J1 jc hz
  by_cases hb : argBad ⟨id, name, expr, pol, gr, lim, ret, tmo, dp, dn, dc, pau, ver, seen⟩
  · rw [if_pos hb] at hq
    subst hq
    go_wp2_with ((conv in (World.alloc w1 (exO x)) => skip); generalize World.alloc w1 (exO x) = W5 at *; have jc := blk_cell J2)
    all_goals
      go_ret
      first
        | exact ⟨rfl, B2⟩
        | (exfalso; unfold argBad at hb; dsimp only at hb; omega)
  · rw [if_neg hb] at hq
    subst hq
    have hb' : ¬ (pol < 1) ∧ ¬ (3 < pol) ∧ ¬ (gr < 0) ∧ ¬ (604800 < gr) ∧ ¬ (lim < 1) ∧ ¬ (8 < lim) ∧ ¬ (ret < 0) ∧ ¬ (5 < ret) ∧ ¬ (tmo < 1) ∧ ¬ (86400 < tmo) ∧ ¬ (seen < -1) ∧ ¬ (13569465600 ≤ seen) := by
      simpa [argBad, not_or] using hb
    obtain ⟨g1, g2, g3, g4, g5, g6, g7, g8, g9, g10, g11, g12⟩ := hb'
    rw [Int.not_lt] at g1 g2 g3 g4 g5 g6 g7 g8 g9 g10 g11
    rw [Int.not_le] at g12
    clear hb
    go_wp2_with ((conv in (World.alloc w1 (exO x)) => skip); generalize World.alloc w1 (exO x) = W5 at *; have jc := blk_cell J2)
    all_goals
      go_ret
      exact ⟨rfl, B2⟩
end Go.Proofs.YtceddjpaddcjiaaGreatDoor
