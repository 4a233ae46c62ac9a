/- The walks of plan.row's steps, plan.moment, plan.rows. -/
import Derived.Test.YtceddjpaddcjiaaGreatDoorSame
import Derived.Test.YtceddjpaddcjiaaGreatDoorAfter
import Derived.Deep.AppendLies
namespace Go.Proofs.YtceddjpaddcjiaaGreatDoor
open Go.RowKit
structure Rw where
  j : Jb
  x : Ex
  at' : Int
  ov : Bool
abbrev rwC (r : Rw) : List Value := [.int .u64 r.j.id, .string r.j.name, .string r.j.expr, .int .i64 r.j.pol, .int .i64 r.j.gr, .int .i64 r.j.lim, .int .i64 r.j.ret, .int .i64 r.j.tmo, .slice r.j.dp r.j.dn r.j.dc, .bool r.j.pau, .int .u64 r.j.ver, .int .i64 r.j.seen,
  .int .u64 r.x.b0, .bool r.x.s0, .int .u64 r.x.b1, .bool r.x.s1, .int .u64 r.x.b2, .bool r.x.s2, .int .u64 r.x.b3, .bool r.x.s3, .int .u64 r.x.b4, .bool r.x.s4, .int .i64 r.at', .bool r.ov]
def stepR (r : Rw) : Rw := { r with at' := (afterF r.x r.at').1, ov := (afterF r.x r.at').2 != 0 }
/-- A row lies in a block from a place on. -/
def RowAt (w : World) (b o : Nat) (r : Rw) : Prop := ∀ k v, (rwC r)[k]? = some v → w.cell? ⟨b, o + k, none⟩ = some v
set_option maxHeartbeats 4000000 in
set_option maxRecDepth 100000 in
theorem steps_any (r : Rw) (hx : r.x.ok) (b o : Nat) (w : World) (hT : Tab64 w) (hr : RowAt w b o r) (hb : b < w.heap.size) (hf : ∀ o, w.frozen? ⟨b, o, none⟩ = false) :
    Calls Tryz.prog 116 #[.pointer (some ⟨b, o, none⟩)] w fun e w' => (∃ v, e = .returned v) ∧
      ∃ w1, Below w.heap.size w w1 ∧ w' = (w1.setCell ⟨b, o + 22, none⟩ (.int .i64 (stepR r).at')).setCell ⟨b, o + 23, none⟩ (.bool (stepR r).ov) := by
  have c0 := fun u : Later w => Later.cellp (hr 12 _ rfl) u
  have c1 := fun u : Later w => Later.cellp (hr 13 _ rfl) u
  have c2 := fun u : Later w => Later.cellp (hr 14 _ rfl) u
  have c3 := fun u : Later w => Later.cellp (hr 15 _ rfl) u
  have c4 := fun u : Later w => Later.cellp (hr 16 _ rfl) u
  have c5 := fun u : Later w => Later.cellp (hr 17 _ rfl) u
  have c6 := fun u : Later w => Later.cellp (hr 18 _ rfl) u
  have c7 := fun u : Later w => Later.cellp (hr 19 _ rfl) u
  have c8 := fun u : Later w => Later.cellp (hr 20 _ rfl) u
  have c9 := fun u : Later w => Later.cellp (hr 21 _ rfl) u
  have c10 := fun u : Later w => Later.cellp (hr 22 _ rfl) u
  have c11 := fun u : Later w => Later.cellp (hr 23 _ rfl) u
  obtain ⟨j, x, at', ov⟩ := r
  clear hr
  go_enter Tryz.func116, Tryz.ntmps116
  go_wp2_with fail
  refine region_later (by kernel_rfl) (by kernel_rfl) ?_
  repeat (go_big_quiet_step ((go_at_call 54; exact later_call (after_any x hx _ _ (tab_keep hT (Later.below _))))))
  refine wpQuiet_nil ?_
  rintro _ ⟨u, rfl⟩
  have cf := fun o => (show u.u.frozen? ⟨b, o, none⟩ = false from (World.frozen?_of_block (u.below.block b hb)).trans (hf o))
  have d10 := c10 u
  have d11 := c11 u
  have hu := u.below
  clear c0 c1 c2 c3 c4 c5 c6 c7 c8 c9 c10 c11 hf
  generalize u.u = W1 at *
  go_wp2
  exact bodyPost_end (v := .tuple #[]) (by simp [results, Tryz.results116, go_sem]) rfl ⟨⟨_, rfl⟩, W1, hu, rfl⟩
def momentB (t : Int) : Bool := decide (0 ≤ t) && decide (t < 13569465600)
theorem moment_any2 (t : Int) (w : World) :
    Calls Tryz.prog 49 #[.int .i64 t] w fun e w' => e = .returned (.bool (momentB t)) ∧ w' = w := by
  go_enter Tryz.func49, Tryz.ntmps49
  by_cases h0 : 0 ≤ t
  · go_wp2
    go_ret
    exact ⟨by simp [momentB, h0], rfl⟩
  · replace h0 : t < 0 := by omega
    go_wp2
    go_ret
    exact ⟨by simp [momentB]; omega, rfl⟩
end Go.Proofs.YtceddjpaddcjiaaGreatDoor
