import Derived.Test.YtamefliipjhpoaaGreatEnc
import Derived.Test.YtamefliipjhpoaaGreatOpen
set_option autoImplicit false
set_option linter.unusedSimpArgs false
set_option linter.unusedVariables false
namespace Go.Proofs.YtamefliipjhpoaaGreat.Ab
open Go Go.Proofs

set_option maxRecDepth 20000
theorem wf_u64 {i : Int} (h : (Lit.int .u64 i).wf = true) : 0 ≤ i ∧ i < 18446744073709551616 := by
  simp [Lit.wf, IntKind.min, IntKind.max, IntKind.signed, IntKind.bits] at h; omega
theorem wf_i64 {i : Int} (h : (Lit.int .i64 i).wf = true) : -9223372036854775808 ≤ i ∧ i < 9223372036854775808 := by
  simp [Lit.wf, IntKind.min, IntKind.max, IntKind.signed, IntKind.bits] at h; omega
theorem wf_f64 {i : Nat} (h : (Lit.float .f64 i).wf = true) : i < 18446744073709551616 := by
  simp [Lit.wf] at h; omega
theorem reach_lt : reachBytes < 4611686018427387904 := by decide
def u64ok (i : Int) : Prop := 0 ≤ i ∧ i < 18446744073709551616
def i64ok (i : Int) : Prop := -9223372036854775808 ≤ i ∧ i < 9223372036854775808
def f64ok (i : Nat) : Prop := i < 18446744073709551616
def strok (s : ByteArray) : Prop := s.size ≤ reachBytes

theorem shp_strs {n : Nat} {ds : List D} (h : Shp Tryz.prog (n + 2) 86 ds) : ∃ l : List ByteArray, ds = [tagsD l] ∧ l.length ≤ reachBytes ∧ ∀ x ∈ l, strok x := by
  obtain ⟨rows, rfl, hl, hr⟩ := shp_slice u86 h
  obtain ⟨l, rfl, hok⟩ := rows_map (enc := tagC) (ok := strok) (fun row h => shp_string u9 (hr row h))
  have hc : Tryz.prog.cellsOf 9 = 1 := by unfold Program.cellsOf; rw [i9]; rfl
  rw [hc]
  exact ⟨l, rfl, by simpa using hl, hok⟩

def mutOk (x : Spec.Mut) : Prop := i64ok x.kind ∧ u64ok x.id ∧ u64ok x.list ∧ strok x.text ∧ f64ok x.f
theorem shp_mut {n : Nat} {ds : List D} (h : Shp Tryz.prog (n + 2) 30 ds) : ∃ x : Spec.Mut, ds = mutC x ∧ mutOk x := by
  have s0 := shp_struct u30 h
  clear h
  obtain ⟨a0, r0, rfl, h0, s1⟩ := s0
  obtain ⟨v0, rfl, w0⟩ := shp_int u3 h0
  obtain ⟨a1, r1, rfl, h1, s2⟩ := s1
  obtain ⟨v1, rfl, w1⟩ := shp_int u27 h1
  obtain ⟨a2, r2, rfl, h2, s3⟩ := s2
  obtain ⟨v2, rfl, w2⟩ := shp_int u27 h2
  obtain ⟨a3, r3, rfl, h3, s4⟩ := s3
  obtain ⟨v3, rfl, w3⟩ := shp_string u9 h3
  obtain ⟨a4, r4, rfl, h4, s5⟩ := s4
  obtain ⟨v4, rfl, w4⟩ := shp_float u28 h4
  obtain ⟨a5, r5, rfl, h5, s6⟩ := s5
  obtain ⟨v5, rfl⟩ := shp_bool u4 h5
  cases s6
  exact ⟨⟨v0, v1, v2, v3, v4, v5⟩, rfl, wf_i64 w0, wf_u64 w1, wf_u64 w2, w3, wf_f64 w4⟩

def itemOk (x : Spec.Item) : Prop := u64ok x.ident ∧ u64ok x.id ∧ mutOk x.m
theorem shp_item {n : Nat} {ds : List D} (h : Shp Tryz.prog (n + 4) 32 ds) : ∃ x : Spec.Item, ds = itemC x ∧ itemOk x := by
  have s0 := shp_struct u32 h
  clear h
  obtain ⟨a0, r0, rfl, h0, s1⟩ := s0
  obtain ⟨v0, rfl, w0⟩ := shp_int u27 h0
  obtain ⟨a1, r1, rfl, h1, s2⟩ := s1
  obtain ⟨v1, rfl, w1⟩ := shp_int u27 h1
  obtain ⟨a2, r2, rfl, h2, s3⟩ := s2
  obtain ⟨v2, rfl, w2⟩ := shp_mut h2
  cases s3
  exact ⟨⟨v0, v1, v2⟩, rfl, wf_u64 w0, wf_u64 w1, w2⟩

theorem shp_items {n : Nat} {ds : List D} (h : Shp Tryz.prog (n + 5) 22 ds) : ∃ l : List Spec.Item, ds = [itemsD l] ∧ l.length ≤ reachBytes ∧ ∀ x ∈ l, itemOk x := by
  obtain ⟨rows, rfl, hl, hr⟩ := shp_slice u22 h
  obtain ⟨l, rfl, hok⟩ := rows_map (enc := itemC) (ok := itemOk) (fun row h => shp_item (hr row h))
  have hc : Tryz.prog.cellsOf 32 = 8 := by unfold Program.cellsOf; rw [i32]; rfl
  rw [hc]
  exact ⟨l, rfl, by simpa using hl, hok⟩

def lrecOk (x : Spec.LRec) : Prop := u64ok x.id ∧ strok x.name
theorem shp_lrec {n : Nat} {ds : List D} (h : Shp Tryz.prog (n + 4) 116 ds) : ∃ x : Spec.LRec, ds = lrecC x ∧ lrecOk x := by
  have s0 := shp_struct u116 h
  clear h
  obtain ⟨a0, r0, rfl, h0, s1⟩ := s0
  obtain ⟨v0, rfl, w0⟩ := shp_int u27 h0
  obtain ⟨a1, r1, rfl, h1, s2⟩ := s1
  obtain ⟨v1, rfl, w1⟩ := shp_string u9 h1
  cases s2
  exact ⟨⟨v0, v1⟩, rfl, wf_u64 w0, w1⟩

def taskOk (x : Spec.Task) : Prop := u64ok x.id ∧ u64ok x.list ∧ strok x.title ∧ f64ok x.rank ∧ f64ok x.est ∧ (x.tags.length ≤ reachBytes ∧ ∀ t ∈ x.tags, strok t)
theorem shp_task {n : Nat} {ds : List D} (h : Shp Tryz.prog (n + 4) 88 ds) : ∃ x : Spec.Task, ds = taskC x ∧ taskOk x := by
  have s0 := shp_struct u88 h
  clear h
  obtain ⟨a0, r0, rfl, h0, s1⟩ := s0
  obtain ⟨v0, rfl, w0⟩ := shp_int u27 h0
  obtain ⟨a1, r1, rfl, h1, s2⟩ := s1
  obtain ⟨v1, rfl, w1⟩ := shp_int u27 h1
  obtain ⟨a2, r2, rfl, h2, s3⟩ := s2
  obtain ⟨v2, rfl, w2⟩ := shp_string u9 h2
  obtain ⟨a3, r3, rfl, h3, s4⟩ := s3
  obtain ⟨v3, rfl⟩ := shp_bool u4 h3
  obtain ⟨a4, r4, rfl, h4, s5⟩ := s4
  obtain ⟨v4, rfl, w4⟩ := shp_float u28 h4
  obtain ⟨a5, r5, rfl, h5, s6⟩ := s5
  obtain ⟨v5, rfl, w5⟩ := shp_float u28 h5
  obtain ⟨a6, r6, rfl, h6, s7⟩ := s6
  obtain ⟨v6, rfl, w6⟩ := shp_strs h6
  cases s7
  exact ⟨⟨v0, v1, v2, v3, v4, v5, v6⟩, rfl, wf_u64 w0, wf_u64 w1, w2, wf_f64 w4, wf_f64 w5, w6⟩

theorem shp_lrecs {n : Nat} {ds : List D} (h : Shp Tryz.prog (n + 5) 74 ds) : ∃ l : List Spec.LRec, ds = [lrecsD l] ∧ l.length ≤ reachBytes ∧ ∀ x ∈ l, lrecOk x := by
  obtain ⟨rows, rfl, hl, hr⟩ := shp_slice u74 h
  obtain ⟨l, rfl, hok⟩ := rows_map (enc := lrecC) (ok := lrecOk) (fun row h => shp_lrec (hr row h))
  have hc : Tryz.prog.cellsOf 116 = 2 := by unfold Program.cellsOf; rw [i116]; rfl
  rw [hc]
  exact ⟨l, rfl, by simpa using hl, hok⟩

theorem shp_tasks {n : Nat} {ds : List D} (h : Shp Tryz.prog (n + 5) 53 ds) : ∃ l : List Spec.Task, ds = [tasksD l] ∧ l.length ≤ reachBytes ∧ ∀ x ∈ l, taskOk x := by
  obtain ⟨rows, rfl, hl, hr⟩ := shp_slice u53 h
  obtain ⟨l, rfl, hok⟩ := rows_map (enc := taskC) (ok := taskOk) (fun row h => shp_task (hr row h))
  have hc : Tryz.prog.cellsOf 88 = 7 := by unfold Program.cellsOf; rw [i88]; rfl
  rw [hc]
  exact ⟨l, rfl, by simpa using hl, hok⟩

end Go.Proofs.YtamefliipjhpoaaGreat.Ab
