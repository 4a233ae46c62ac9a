/- The arguments as the form reads them, opened into what the walks ask; the listed variables; a world for the witness. -/
import Derived.Test.YtceddjpaddcjiaaGreatDoorRows
import Derived.Test.YtceddjpaddcjiaaGreatDoorSame
import Derived.Test.YtceddjpaddcjiaaGreatDoorElems
import Derived.Deep.Slices
import Derived.Deep.Fields
import Derived.Lib.LaidTab
import Derived.Lib.LaidIn
import Derived.Lib.LaidU8T
import Derived.PinnedBridge
import Derived.Stop.LaidErr
import Derived.ProofKit
namespace Go.Proofs.YtceddjpaddcjiaaGreatDoor
open Go.ChangeShapes Go.WideShapes Go.ChangeAt Go.RowKit Go.Lib Go.Shelf Go.Deep
section
variable {H : Type} {enc : TypeId × Value → H} {W : World}
theorem jobs_list (R : Nat → Jb → Prop) : ∀ n : Nat, (∀ i, i < n → ∃ q, R i q) → ∃ l : List Jb, l.length = n ∧ ∀ i (h : i < l.length), R i l[i]
  | 0, _ => ⟨[], rfl, fun i h => by simp at h⟩
  | n + 1, h => by
    obtain ⟨l, hl, hr⟩ := jobs_list R n (fun i hi => h i (by omega))
    obtain ⟨q, hq⟩ := h n (by omega)
    refine ⟨l ++ [q], by simp [hl], fun i hi => ?_⟩
    by_cases hi' : i < l.length
    · rw [List.getElem_append_left hi']; exact hr i hi'
    · have : i = l.length := by simp at hi; omega
      subst this
      rw [List.getElem_append_right (by omega)]
      simpa [hl] using hq
theorem bulk_part {d : DataW H} {l : List (DataW H)} (h : d ∈ l) : Rows.uptoBulk d ≤ Rows.uptoBulkAll l := by
  induction l with
  | nil => cases h
  | cons x r ih =>
    simp only [Rows.uptoBulkAll]
    cases List.mem_cons.1 h with
    | inl e => subst e; omega
    | inr e => have := ih e; omega
theorem bulk_one (d : DataW H) : 1 ≤ Rows.uptoBulk d := by
  cases d with
  | lit l => cases l <;> simp [Rows.uptoBulk]
  | nil => simp [Rows.uptoBulk]
  | ptr d => simp [Rows.uptoBulk]
  | slice elems spare => simp [Rows.uptoBulk]
  | agg parts => simp [Rows.uptoBulk]
  | iface t d => simp [Rows.uptoBulk]
  | map entries => simp [Rows.uptoBulk]
  | held h => simp [Rows.uptoBulk]
theorem bulk_len (l : List (DataW H)) : l.length ≤ Rows.uptoBulkAll l := by
  induction l with
  | nil => simp [Rows.uptoBulkAll]
  | cons x r ih => have := bulk_one x; simp only [Rows.uptoBulkAll, List.length_cons]; omega
theorem block_of_cell {a : Addr} {v : Value} (h : W.cell? a = some v) : a.block < W.heap.size := World.block_lt_of_cell? W a h
/-- A job among an argument's memory. -/
def JobRead (W : World) (a : Addr) (B : Nat) (q : Jb) : Prop :=
  (∀ k v, (jbC q)[k]? = some v → W.cell? (a.add k) = some v) ∧ (Lit.int .u64 q.id).wf = true ∧ q.name.size ≤ B ∧ q.expr.size ≤ B ∧ q.dn ≤ B ∧ DepsAt W q.dp q.dn ∧ depsBelow W.heap.size q.dp q.dn
theorem open_deps {fuel : Nat} {v : Value} {y : DataW H × List MemPlace} (h : DataW.trod enc Tryz.prog W 0 (fun _ => true) true fuel 35 [v] = some y) :
    ∃ dp dn dc, v = .slice dp dn dc ∧ dn ≤ Rows.uptoBulk y.1 ∧ DepsAt W dp dn ∧ depsBelow W.heap.size dp dn := by
  rcases open_ints Tryz.underlying35 Tryz.underlying29 (by kernel_rfl) h with ⟨hcs, hx⟩ | ⟨a, len, cap, zs, hcs, _, hl, hm, hz, hx, hc, hw⟩
  · have : v = .slice none 0 0 := by simpa using hcs
    exact ⟨none, 0, 0, this, Nat.zero_le _, Or.inl rfl, Or.inl rfl⟩
  · have hv : v = .slice (some a) len cap := by simpa using hcs
    simp only [if_true] at hz
    refine ⟨some a, len, cap, hv, ?_, ?_⟩
    · subst hx
      have h1 := bulk_len (H := H) (lits .u64 (zs.take len))
      have h2 : (lits (H := H) .u64 (zs.take len)).length = len := by simp [lits]; omega
      simp only [Rows.uptoBulk]
      omega
    · by_cases h0 : len = 0
      · exact ⟨Or.inl h0, Or.inl h0⟩
      · have hs := World.cell?_spot (hc 0 (by omega))
        have hb := block_of_cell (hc 0 (by omega))
        obtain ⟨b, o, spot⟩ := a
        have hs' : spot = none := by simpa [Addr.add] using hs
        subst hs'
        refine ⟨Or.inr ⟨b, o, rfl, fun i hi => ⟨zs.getD i 0, ?_⟩⟩, Or.inr ⟨b, o, rfl, by simpa [Addr.add] using hb⟩⟩
        rw [← Addr.add_mid]
        exact hc i (by omega)
theorem open_fields {P : Program} {t : TypeId} {fs : Array Field} {fuel : Nat} {a : Addr} {cs : List Value} {x : DataW H × List MemPlace} (hu : P.underlying t = some (.struct fs)) (hone : oneCellFields P fs = true) (hC : P.cellsOf t = fs.size)
    (hc : W.cells? 0 a (P.cellsOf t) = some cs) (h : DataW.trod enc P W 0 (fun _ => true) true fuel t cs = some x) :
    ∃ (xs : List (DataW H × List MemPlace)) (n : Nat), x.1 = .agg (xs.map (·.1)) ∧ ∀ (k : Nat) (f : Field), fs[k]? = some f → ∃ (v : Value) (y : DataW H × List MemPlace), W.cell? (a.add k) = some v ∧ y.1 ∈ xs.map (·.1) ∧ DataW.trod enc P W 0 (fun _ => true) true n f.type [v] = some y := by
  obtain ⟨xs, n, _, rfl, hlen, hxl, hf⟩ := DataW.trod_struct hu h
  obtain ⟨_, hcl, hat⟩ := World.cells?_some hc
  rw [hC] at hcl hat
  refine ⟨xs, n, rfl, fun k f hkf => ?_⟩
  have hk : k < fs.size := (Array.getElem?_eq_some_iff.1 hkf).1
  have h1 := hf k f hkf
  obtain ⟨ho, hk1⟩ := hone_of hone k f hkf
  rw [ho, hk1] at h1
  have e1 : (cs.drop k).take 1 = [cs[k]'(by omega)] := by rw [List.drop_eq_getElem_cons (by omega)]; rfl
  have hkx : k < xs.length := by omega
  rw [e1, List.getElem?_eq_getElem hkx] at h1
  exact ⟨_, _, by rw [hat k hk, List.getElem?_eq_getElem (by omega)], List.mem_map_of_mem (List.getElem_mem hkx), h1⟩
theorem open_job {fuel : Nat} {a : Addr} {cs : List Value} {x : DataW H × List MemPlace} (hc : W.cells? 0 a (Tryz.prog.cellsOf 37) = some cs) (h : DataW.trod enc Tryz.prog W 0 (fun _ => true) true fuel 37 cs = some x) :
    ∃ q, JobRead W a (Rows.uptoBulk x.1) q := by
  obtain ⟨xs, n, hx, hf⟩ := open_fields Tryz.underlying37 (by kernel_rfl) (by kernel_rfl) hc h
  have hb : ∀ y : DataW H × List MemPlace, y.1 ∈ xs.map (·.1) → Rows.uptoBulk y.1 ≤ Rows.uptoBulk x.1 := fun y hy => by
    have := bulk_part hy
    rw [hx]
    simp only [Rows.uptoBulk]
    omega
  obtain ⟨v0, y0, c0, m0, t0⟩ := hf 0 _ rfl
  obtain ⟨v1, y1, c1, m1, t1⟩ := hf 1 _ rfl
  obtain ⟨v2, y2, c2, m2, t2⟩ := hf 2 _ rfl
  obtain ⟨v3, y3, c3, m3, t3⟩ := hf 3 _ rfl
  obtain ⟨v4, y4, c4, m4, t4⟩ := hf 4 _ rfl
  obtain ⟨v5, y5, c5, m5, t5⟩ := hf 5 _ rfl
  obtain ⟨v6, y6, c6, m6, t6⟩ := hf 6 _ rfl
  obtain ⟨v7, y7, c7, m7, t7⟩ := hf 7 _ rfl
  obtain ⟨v8, y8, c8, m8, t8⟩ := hf 8 _ rfl
  obtain ⟨v9, y9, c9, m9, t9⟩ := hf 9 _ rfl
  obtain ⟨v10, y10, c10, m10, t10⟩ := hf 10 _ rfl
  obtain ⟨v11, y11, c11, m11, t11⟩ := hf 11 _ rfl
  obtain ⟨id, e0, -, w0⟩ := DataW.trod_int Tryz.underlying29 t0
  obtain ⟨name, e1, x1, -⟩ := DataW.trod_string Tryz.underlying9 t1
  obtain ⟨expr, e2, x2, -⟩ := DataW.trod_string Tryz.underlying9 t2
  obtain ⟨pol, e3, -, -⟩ := DataW.trod_int Tryz.underlying3 t3
  obtain ⟨gr, e4, -, -⟩ := DataW.trod_int Tryz.underlying2 t4
  obtain ⟨lim, e5, -, -⟩ := DataW.trod_int Tryz.underlying3 t5
  obtain ⟨ret, e6, -, -⟩ := DataW.trod_int Tryz.underlying3 t6
  obtain ⟨tmo, e7, -, -⟩ := DataW.trod_int Tryz.underlying2 t7
  obtain ⟨dp, dn, dc, rfl, hdn, hd1, hd2⟩ := open_deps t8
  obtain ⟨pau, e9, -⟩ := DataW.trod_bool Tryz.underlying4 t9
  obtain ⟨ver, e10, -, -⟩ := DataW.trod_int Tryz.underlying29 t10
  obtain ⟨seen, e11, -, -⟩ := DataW.trod_int Tryz.underlying2 t11
  simp only [List.cons.injEq, and_true] at e0 e1 e2 e3 e4 e5 e6 e7 e9 e10 e11
  subst e0 e1 e2 e3 e4 e5 e6 e7 e9 e10 e11
  have s1 := hb y1 m1
  have s2 := hb y2 m2
  have s8 := hb y8 m8
  subst x1 x2
  simp only [Rows.uptoBulk] at s1 s2
  refine ⟨⟨id, name, expr, pol, gr, lim, ret, tmo, dp, dn, dc, pau, ver, seen⟩, fun k v hk => ?_, w0, ?_, ?_, by simp only; omega, hd1, hd2⟩
  · have h12 : k < 12 := (List.getElem?_eq_some_iff.1 hk).1
    rcases k with _ | _ | _ | _ | _ | _ | _ | _ | _ | _ | _ | _ | k
    · cases hk; exact c0
    · cases hk; exact c1
    · cases hk; exact c2
    · cases hk; exact c3
    · cases hk; exact c4
    · cases hk; exact c5
    · cases hk; exact c6
    · cases hk; exact c7
    · cases hk; exact c8
    · cases hk; exact c9
    · cases hk; exact c10
    · cases hk; exact c11
    · omega
  · have := Lib.size_eq name
    simp only
    omega
  · have := Lib.size_eq expr
    simp only
    omega
/-- A slice of jobs that came in. -/
def JobsRead (W : World) (jp : Option Addr) (B : Nat) (js : List Jb) : Prop :=
  ElemsAt 12 jbC W W.heap.size jp js ∧ js.length ≤ B ∧ ∀ q ∈ js, (Lit.int .u64 q.id).wf = true ∧ q.name.size ≤ B ∧ q.expr.size ≤ B ∧ q.dn ≤ B ∧ DepsAt W q.dp q.dn ∧ depsBelow W.heap.size q.dp q.dn
theorem open_jobs {fuel : Nat} {jp : Option Addr} {n c : Nat} {x : DataW H × List MemPlace} (h : DataW.trod enc Tryz.prog W 0 (fun _ => true) true fuel 22 [.slice jp n c] = some x) :
    ∃ js, js.length = n ∧ JobsRead W jp (Rows.uptoBulk x.1) js := by
  have h12 : Tryz.prog.cellsOf 37 = 12 := by kernel_rfl
  rcases open_slice Tryz.underlying22 h with ⟨hcs, hx⟩ | ⟨a, len, cap, m, n', D, Pl, hcs, _, hl, hm, hmm, hx, hi⟩
  · have : n = 0 := by
      simp only [List.cons.injEq, Value.slice.injEq, and_true] at hcs
      omega
    subst this
    exact ⟨[], rfl, Or.inl rfl, Nat.zero_le _, fun q hq => by cases hq⟩
  · simp only [List.cons.injEq, Value.slice.injEq, and_true] at hcs
    obtain ⟨rfl, rfl, rfl⟩ := hcs
    simp only [if_true] at hmm
    have hbulk : ∀ i, i < n → Rows.uptoBulk (D i) + n ≤ Rows.uptoBulk x.1 + n ∧ Rows.uptoBulk (D i) ≤ Rows.uptoBulk x.1 := fun i hin => by
      have : D i ∈ (List.range n).map D := List.mem_map_of_mem (List.mem_range.2 hin)
      have := bulk_part this
      rw [hx]
      simp only [Rows.uptoBulk]
      omega
    have hlen : n ≤ Rows.uptoBulk x.1 := by
      have := bulk_len ((List.range n).map D)
      rw [hx]
      simp only [Rows.uptoBulk]
      simp only [List.length_map, List.length_range] at this
      omega
    obtain ⟨js, hjl, hr⟩ := jobs_list (fun i q => JobRead W (a.add (i * 12)) (Rows.uptoBulk x.1) q) n (fun i hin => by
      obtain ⟨cs', hc, ht⟩ := hi i (by omega)
      obtain ⟨q, h1, h2, h3, h4, h5, h6⟩ := open_job hc ht
      rw [h12] at h1
      have := (hbulk i hin).2
      exact ⟨q, h1, h2, by simp only at h3; omega, by simp only at h4; omega, by simp only at h5; omega, h6⟩)
    refine ⟨js, hjl, ?_, by omega, fun q hq => ?_⟩
    · by_cases h0 : n = 0
      · exact Or.inl (List.length_eq_zero_iff.1 (by omega))
      · have hc0 := (hr 0 (by omega)).1 0 _ rfl
        have hs := World.cell?_spot hc0
        have hb := block_of_cell hc0
        obtain ⟨b, o, spot⟩ := a
        have hs' : spot = none := by simpa [Addr.add] using hs
        subst hs'
        refine Or.inr ⟨b, o, rfl, by simpa [Addr.add] using hb, fun i hi' k v hk => ?_⟩
        have := (hr i hi').1 k v hk
        rw [Go.Deep.add_add, Addr.add_mid] at this
        rw [Nat.add_assoc]
        exact this
    · obtain ⟨i, hi', rfl⟩ := List.mem_iff_getElem.1 hq
      exact (hr i hi').2
end
end Go.Proofs.YtceddjpaddcjiaaGreatDoor
