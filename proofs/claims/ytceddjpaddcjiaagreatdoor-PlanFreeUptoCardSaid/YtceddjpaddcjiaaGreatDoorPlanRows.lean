/- The walk of plan.rows. -/
import Derived.Test.YtceddjpaddcjiaaGreatDoorRow
import Derived.Deep.WholeRow
namespace Go.Proofs.YtceddjpaddcjiaaGreatDoor
open Go.RowKit
theorem or_ok (a b : Int) : u64ok (bits .or .u64 a b) := by
  unfold bits u64ok
  rw [IntKind.wrap_u64]
  exact ⟨Int.emod_nonneg _ (by decide), Int.emod_lt_of_pos _ (by decide)⟩
theorem zero_ok : u64ok 0 := ⟨by decide, by decide⟩
theorem orF_ok (k : Int) : ∀ (l : List ByteArray) (acc : Int), u64ok acc → u64ok (orF k l acc).1
  | [], acc, h => h
  | x :: r, acc, h => by
    unfold orF
    split
    · exact zero_ok
    · exact orF_ok k r _ (or_ok _ _)
theorem parseF_ok (k : Int) (s : ByteArray) : u64ok (parseF k s).1 := by
  unfold parseF
  repeat' split
  · exact zero_ok
  · exact zero_ok
  · exact orF_ok k _ _ zero_ok
theorem exZ_ok : Ex.ok exZ := ⟨⟨by decide, by decide⟩, ⟨by decide, by decide⟩, ⟨by decide, by decide⟩, ⟨by decide, by decide⟩, ⟨by decide, by decide⟩⟩
theorem cronF_ok (s : ByteArray) : (cronF s).1.ok := by
  unfold cronF partsF fieldsF
  repeat' split
  · exact exZ_ok
  · exact exZ_ok
  · exact exZ_ok
  · exact ⟨parseF_ok _ _, parseF_ok _ _, parseF_ok _ _, parseF_ok _ _, parseF_ok _ _⟩
abbrev rwV (r : Rw) : Value := .agg #[.int .u64 r.j.id, .string r.j.name, .string r.j.expr, .int .i64 r.j.pol, .int .i64 r.j.gr, .int .i64 r.j.lim, .int .i64 r.j.ret, .int .i64 r.j.tmo, .slice r.j.dp r.j.dn r.j.dc, .bool r.j.pau, .int .u64 r.j.ver, .int .i64 r.j.seen, .int .u64 r.x.b0, .bool r.x.s0, .int .u64 r.x.b1, .bool r.x.s1, .int .u64 r.x.b2, .bool r.x.s2, .int .u64 r.x.b3, .bool r.x.s3, .int .u64 r.x.b4, .bool r.x.s4, .int .i64 r.at', .bool r.ov]
abbrev rwO (r : Rw) : Obj := .cells #[.int .u64 r.j.id, .string r.j.name, .string r.j.expr, .int .i64 r.j.pol, .int .i64 r.j.gr, .int .i64 r.j.lim, .int .i64 r.j.ret, .int .i64 r.j.tmo, .slice r.j.dp r.j.dn r.j.dc, .bool r.j.pau, .int .u64 r.j.ver, .int .i64 r.j.seen, .int .u64 r.x.b0, .bool r.x.s0, .int .u64 r.x.b1, .bool r.x.s1, .int .u64 r.x.b2, .bool r.x.s2, .int .u64 r.x.b3, .bool r.x.s3, .int .u64 r.x.b4, .bool r.x.s4, .int .i64 r.at', .bool r.ov] 166
set_option maxRecDepth 100000 in
theorem build_row (q : Jb) (x : Ex) (t : Int) (w : World) : (Instr.build 166 #[(0, jbV q), (1, exV x), (2, .int .i64 t)]).run Tryz.prog w = .ok (rwV ⟨q, x, t, false⟩) w := by kernel_rfl
theorem wpList_store_new {P : Program} {ops : Array Oper} {rest : List Oper} {o : Oper} {a : Act} {w : World} {Q : Exit → Act → World → Prop} (hgd : o.guard = none) (ty : TypeId) (x y : Operand) (ho : o.op = .store ty x y)
    (w0 : World) (old cells : Array Value) (hw : w = w0.alloc (.cells old ty)) (hx : a.eval x = .pointer (some ⟨w0.heap.size, 0, none⟩)) (hy : a.eval y = .agg cells)
    (hi : (P.info? ty).map (·.size) = some cells.size) (hold : old.size = cells.size) (h1 : cells.all (·.oneCell') = true)
    (h : wpList P ops Q rest (a.put o.dst undef) (w0.alloc (.cells cells ty))) : wpList P ops Q (o :: rest) a w := by
  subst hw
  refine wpList_store_row hgd ty x y ho w0.heap.size cells hx hy ty old (heap_alloc_last _ _) hi hold h1 ?_
  rw [World.setRow_alloc_new]
  exact h
/-- Jobs lie below a height. -/
def JobsAt (w : World) (n : Nat) (jp : Option Addr) (js : List Jb) : Prop :=
  js = [] ∨ ∃ b o, jp = some ⟨b, o, none⟩ ∧ b < n ∧ ∀ i (h : i < js.length) k v, (jbC js[i])[k]? = some v → w.cell? ⟨b, o + i * 12 + k, none⟩ = some v
theorem jobs_keep {w w' : World} {n : Nat} {jp : Option Addr} {js : List Jb} (h : JobsAt w n jp js) (hb : Below n w w') : JobsAt w' n jp js := by
  rcases h with h | ⟨b, o, rfl, hl, h⟩
  · exact Or.inl h
  · exact Or.inr ⟨b, o, rfl, hl, fun i hi k v hv => (bblk hb hl _).trans (h i hi k v hv)⟩
/-- A job's row, if it fires. -/
def rowO (t : Int) (j : Jb) : Option Rw := if j.pau = true ∨ mayJ j ≠ 0 then none else some (stepR ⟨j, (cronF j.expr).1, t, false⟩)
def rowsF (js : List Jb) (t : Int) : List Rw := js.filterMap (rowO t)
def rowsC (L : List Rw) : List Value := L.flatMap rwC
theorem rows_len (L : List Rw) : (rowsC L).length = L.length * 24 := by
  induction L with
  | nil => rfl
  | cons r L ih => simp [rowsC] at ih ⊢; omega
def rowZ : Value := .agg #[.int .u64 0, .string ⟨#[]⟩, .string ⟨#[]⟩, .int .i64 0, .int .i64 0, .int .i64 0, .int .i64 0, .int .i64 0, .slice none 0 0, .bool false, .int .u64 0, .int .i64 0, .int .u64 0, .bool false, .int .u64 0, .bool false, .int .u64 0, .bool false, .int .u64 0, .bool false, .int .u64 0, .bool false, .int .i64 0, .bool false]
theorem info_row : (Tryz.prog.info? 166).map (fun i => (i.zero, i.size, i.bytes)) = some (some rowZ, 24, 224) := by kernel_rfl
theorem own_keep {w w' : World} {base : Nat} {e : TypeId} {size : Nat} {v : Value} {n : Nat} {xs : List Value} (h : w.ownsRow base e size v n xs) (hb : Below w.heap.size w w') : w'.ownsRow base e size v n xs := by
  obtain ⟨h1, h2 | ⟨g, cap, cur, e1, e2, e3, h3⟩⟩ := h
  · exact ⟨h1, Or.inl h2⟩
  · exact ⟨h1, Or.inr ⟨g, cap, cur, e1, e2, blk_keep e3 hb, h3⟩⟩
theorem row_at {w : World} {b : Nat} {r : Rw} {t : TypeId} {fr : Nat × Nat} (h : w.heap[b]? = some (.cells (rwC r).toArray t fr)) : RowAt w b 0 r := fun k v hv => by
  rw [Nat.zero_add, blk_cell h]
  simpa using hv
set_option maxHeartbeats 8000000 in
set_option maxRecDepth 100000 in
theorem rows_any (jp : Option Addr) (js : List Jb) (jc : Nat) (t : Int) (w : World) (hE : Env w) (hJ : JobsAt w w.heap.size jp js) (hl : js.length ≤ 13) :
    Calls Tryz.prog 114 #[.slice jp js.length jc, .int .i64 t] w fun e w' => ∃ v, e = .returned v ∧ Below w.heap.size w w' ∧ w'.ownsRow w.heap.size 166 24 v (rowsF js t).length (rowsC (rowsF js t)) := by
  have HE := Lib.hid hE
  have HJ := Lib.hid hJ
  clear hE hJ
  go_enter Tryz.func114, Tryz.ntmps114
  go_wp2_with fail
  go_loopg [13, 5] 20 (fun g iv ov wr => ∃ (j : Nat), iv = .int .i64 j ∧ j ≤ js.length ∧ js.length - j ≤ g ∧ Below w.heap.size w wr ∧ wr.ownsRow w.heap.size 166 24 ov (rowsF (js.take j) t).length (rowsC (rowsF (js.take j) t)))
  case atStart => exact ⟨0, rfl, by omega, by omega, Below.refl _ _, World.ownsRow_nil _ _ _ _⟩
  case round =>
    obtain ⟨j, rfl, hj, hg, B, hO⟩ := hrel
    have HO := Lib.hid hO
    clear hO
    by_cases hlt : j < js.length
    · obtain ⟨b, o, rfl, hbl, hc⟩ := (jobs_keep HJ.out B).resolve_left (by intro h; rw [h] at hlt; exact absurd hlt (by simp))
      have hx : rowsF (js.take (j + 1)) t = rowsF (js.take j) t ++ (rowO t js[j]).toList := by
        unfold rowsF
        rw [List.take_succ_eq_append_getElem hlt, List.filterMap_append]
        cases h9 : rowO t js[j] <;> simp [h9]
      have c0 : wr.cell? ⟨b, o + j * 12, none⟩ = some (.int .u64 js[j].id) := hc j hlt 0 _ rfl
      have c1 := hc j hlt 1 _ rfl
      have c2 := hc j hlt 2 _ rfl
      have c3 := hc j hlt 3 _ rfl
      have c4 := hc j hlt 4 _ rfl
      have c5 := hc j hlt 5 _ rfl
      have c6 := hc j hlt 6 _ rfl
      have c7 := hc j hlt 7 _ rfl
      have c8 := hc j hlt 8 _ rfl
      have c9 := hc j hlt 9 _ rfl
      have c10 := hc j hlt 10 _ rfl
      have c11 := hc j hlt 11 _ rfl
      clear hc
      generalize js[j] = q at *
      have HX := Lib.hid hx
      clear hx
      have JB := blk_new wr (jbO q)
      have A1 := a0 wr (jbO q)
      have hwr := B.size
      obtain ⟨id, name, expr, pol, gr, lim, ret, tmo, dp, dn, dc, pau, ver, seen⟩ := q
      cases pau
      rotate_left
      · have HN := Lib.hid (show rowsF (js.take (j + 1)) t = rowsF (js.take j) t by rw [HX.out]; simp [rowO])
        clear HX
        go_wp2
        go_roundg (gk - 1)
        case measure => omega
        case rel => exact ⟨j + 1, by go_num, by omega, by omega, vi B A1, by rw [HN.out]; exact HO.out.alloc _⟩
      · generalize hq : (⟨id, name, expr, pol, gr, lim, ret, tmo, dp, dn, dc, false, ver, seen⟩ : Jb) = q at *
        have HZ := Lib.hid (show (rowO t q) = if mayJ q ≠ 0 then none else some (stepR ⟨q, (cronF q.expr).1, t, false⟩) by rw [← hq]; simp [rowO])
        subst hq
        go_wp2_with fail
        generalize wr.alloc _ = W1 at *
        refine (jmay_any ⟨id, name, expr, pol, gr, lim, ret, tmo, dp, dn, dc, false, ver, seen⟩ _ (env_keep HE.out (vi B A1))).mono ?_
        rintro e w2 ⟨rfl, hb⟩
        have A2 := vi A1 hb
        have JB2 := blk_keep JB hb
        clear JB hb A1 c0 c1 c2 c3 c4 c5 c6 c7 c8 c9 c10 c11
        have hz := HZ.out
        have hx := HX.out
        rw [hz] at hx
        clear HZ HX
        have jc := blk_cell JB2
        have jl := blk_lt JB2
        generalize mayJ _ = m at *
        by_cases hm : m = 0
        rotate_left
        · have hne : (m != 0) = true := by simpa using hm
          rw [if_pos hm] at hx
          have HN := Lib.hid hx
          clear hx hz
          go_wp2
          go_roundg (gk - 1)
          case measure => omega
          case rel => exact ⟨j + 1, by go_num, by omega, by omega, vi B A2, by rw [HN.out]; simpa using own_keep HO.out A2⟩
        · subst hm
          rw [if_neg (by simp)] at hx
          have HN := Lib.hid hx
          clear hx hz
          go_wp2_with fail
          refine (cparse_any expr _ (env_keep HE.out (vi B A2))).mono ?_
          rintro e w3 ⟨rfl, hb⟩
          have A3 := vi A2 hb
          have JB3 := blk_keep JB2 hb
          clear hb jc jl JB2 A2
          have hxo := cronF_ok expr
          generalize cronF expr = c at *
          obtain ⟨x, er⟩ := c
          have XB := blk_new w3 (exO x)
          have JB4 := blk_alloc (o' := exO x) JB3
          have A4 := al A3 (exO x)
          clear JB3 A3
          have hbd := fun w => build_row ⟨id, name, expr, pol, gr, lim, ret, tmo, dp, dn, dc, false, ver, seen⟩ x t w
          go_wp2_with (first | (refine wpList_store_new rfl 166 (.tmp 10) (.tmp 33) rfl W4 _ _ rfl rfl rfl (by kernel_rfl) rfl (by simp [Value.oneCell']) ?_) | ((conv in (World.alloc w3 (exO x)) => skip); generalize hW4 : World.alloc w3 (exO x) = W4 at *; have jc := blk_cell JB4; have xc := blk_cell XB))
          have RB := blk_new W4 (rwO ⟨⟨id, name, expr, pol, gr, lim, ret, tmo, dp, dn, dc, false, ver, seen⟩, x, t, false⟩)
          have A5 := al A4 (rwO ⟨⟨id, name, expr, pol, gr, lim, ret, tmo, dp, dn, dc, false, ver, seen⟩, x, t, false⟩)
          generalize W4.alloc (rwO _) = W5 at *
          refine (steps_any ⟨⟨id, name, expr, pol, gr, lim, ret, tmo, dp, dn, dc, false, ver, seen⟩, x, t, false⟩ hxo _ 0 _ (env_keep HE.out (vi B A5)).t64 (row_at RB) (blk_lt RB) (blk_free RB)).mono ?_
          rintro e w6 ⟨⟨v, rfl⟩, w7, hb7, rfl⟩
          have hs4 : wr.heap.size ≤ W4.heap.size := A4.size
          have A8 := ((vi A5 hb7).setCell (p := ⟨W4.heap.size, 0 + 22, none⟩) hs4 (.int .i64 (stepR ⟨⟨id, name, expr, pol, gr, lim, ret, tmo, dp, dn, dc, false, ver, seen⟩, x, t, false⟩).at')).setCell (p := ⟨W4.heap.size, 0 + 23, none⟩) hs4 (.bool (stepR ⟨⟨id, name, expr, pol, gr, lim, ret, tmo, dp, dn, dc, false, ver, seen⟩, x, t, false⟩).ov)
          have RB8 : _ = some (rwO (stepR ⟨⟨id, name, expr, pol, gr, lim, ret, tmo, dp, dn, dc, false, ver, seen⟩, x, t, false⟩)) := blk_setg (blk_setg (blk_keep RB hb7) (0 + 22) (.int .i64 (stepR ⟨⟨id, name, expr, pol, gr, lim, ret, tmo, dp, dn, dc, false, ver, seen⟩, x, t, false⟩).at')) (0 + 23) (.bool (stepR ⟨⟨id, name, expr, pol, gr, lim, ret, tmo, dp, dn, dc, false, ver, seen⟩, x, t, false⟩).ov)
          generalize World.setCell _ _ _ = W8 at *
          have hO8 := own_keep HO.out A8
          have hx := HN.out
          clear hb7 A5 A4 RB HN JB4 XB hbd jc xc hW4
          generalize (stepR _) = r8 at *
          have nws := World.news_of_block (heap_alloc_last W8 (rwO r8))
          obtain ⟨i0, hi, hz0, hz1, hz2⟩ := info_parts info_row
          have hle : (rowsF (js.take j) t).length ≤ 13 := Nat.le_trans (List.length_filterMap_le _ _) (by simp; omega)
          have hs8 := A8.size
          have HX2 := Lib.hid hx
          have HI := Lib.hid hi
          have HZ0 := Lib.hid hz0
          have HZ1 := Lib.hid hz1
          have HZ2 := Lib.hid hz2
          clear hx hi hz0 hz1 hz2
          generalize rowsF (js.take j) t = RL at *
          go_wp2_with (first | (refine wpList_load_row rfl 166 (.tmp 10) rfl W4.heap.size rfl 166 _ _ _ RB8 Tryz.underlying166 rfl (by kernel_rfl) ?_) | (at_builtin; refine wpList_append_lies _ rfl (.tmp 35) (.tmp 37) 163 rfl w.heap.size 166 i0 rowZ 24 224 Tryz.underlying163 HI.out HZ0.out HZ1.out HZ2.out rfl (by decide) _ _ _ rfl (hO8.alloc _) ⟨W8.heap.size, 0, none⟩ 1 1 (rwC r8) rfl rfl nws (by simp [Value.oneCell']) (by decide) (by unfold maxLen; omega) (by omega) (by simp; omega) _ rfl ?_; intro g9 cap9 w9 hown9 hgrow9 _ _))
          have B9 := (al (vi B A8) (rwO r8)).grown hgrow9 (by simp; omega) (fun k hk => (HO.out.lt k hk).1)
          have hx9 : rowsF (js.take (j + 1)) t = RL ++ [r8] := HX2.out
          have hO9 : w9.ownsRow w.heap.size 166 24 (.slice (some ⟨g9, 0, none⟩) (RL.length + 1) cap9) (rowsF (js.take (j + 1)) t).length (rowsC (rowsF (js.take (j + 1)) t)) := by
            rw [hx9, List.length_append]
            simpa [rowsC] using hown9
          go_roundg (gk - 1)
          case measure => omega
          case rel => exact ⟨j + 1, by go_num, by omega, by omega, B9, hO9⟩
    · have hje : j = js.length := by omega
      subst hje
      have ho := HO.out
      rw [List.take_length] at ho
      go_wp2
      go_ret
      exact ⟨_, rfl, B, ho⟩
end Go.Proofs.YtceddjpaddcjiaaGreatDoor
