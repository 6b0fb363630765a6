/- What was made is sorted: Ids increase, and what is called stands earlier. -/
import Derived.Test.YtdggbdjpcbiofaaGreatMkL
import Derived.Test.YtdggbdjpcbiofaaGreatOrd
set_option linter.unusedSimpArgs false
set_option linter.unusedVariables false
namespace Go.Par

theorem WfL.flat {cx : Cx} {hs : List Hd} : ∀ {n : Nat} {l : List S}, WfL cx hs n l → ∀ s ∈ flatL l, Wf1 cx hs s
  | 0, l, h, s, hs => by rw [WfL] at h; subst h; cases hs
  | n + 1, l, h, s, hs => by
    rw [flatL, List.mem_flatMap] at hs
    obtain ⟨x, hx, hs⟩ := hs
    obtain ⟨h1, h2, h3⟩ := h x hx
    rw [flatS_eq] at hs
    rcases List.mem_cons.1 hs with rfl | hs
    · exact h1
    · rcases List.mem_append.1 hs with hs | hs
      · exact WfL.flat h2 s hs
      · exact WfL.flat h3 s hs

structure Srtd (ds : List D) : Prop where
  inc : ds.Pairwise fun a b => a.id < b.id
  calls : ∀ d ∈ ds, ∀ c ∈ callsD d, c < d.id

theorem Srtd.filter {ds : List D} (h : Srtd ds) (f : D → Bool) : Srtd (ds.filter f) :=
  ⟨h.inc.filter f, fun d hd => h.calls d (List.mem_filter.1 hd).1⟩

theorem DefOk.callsLt {hs : List Hd} {dc : Dc} {i : Int} {th : Bool} {s : Int} {d : D} (h : DefOk hs dc i th s d) : ∀ c ∈ callsD d, ∃ k ∈ hs, k.id = c := by
  intro c hc
  rw [mem_callsD, callsT, List.mem_map] at hc
  obtain ⟨x, hx, rfl⟩ := hc
  rw [List.mem_filter] at hx
  obtain ⟨hx1, hx2⟩ := hx
  have hop : x.op = 13 := by simpa using hx2
  obtain ⟨f, hf, _, _, _, _, _, _, h4, _⟩ := (h.body.flat x hx1).fl
  rw [hop] at hf
  have : f = { n := .result, m := .callee, call := true } := by
    have e : flOf 13 = some { n := .result, m := .callee, call := true } := by decide
    rw [e] at hf; cases hf; rfl
  subst this
  simp only [if_true] at h4
  obtain ⟨_, _, _, _, k, hk, e, _⟩ := h4
  exact ⟨k, hk, e⟩

theorem DefsOk.ids {s : Int} {l : List D} (h : DefsOk s l) : ∀ d ∈ l, 11 ≤ d.id ∧ d.id < 11 + l.length := by
  induction h with
  | nil => intro d hd; cases hd
  | snoc h hd ih =>
    intro d hm
    rcases List.mem_append.1 hm with hm | hm
    · have := ih d hm
      simp only [List.length_append, List.length_cons, List.length_nil]; omega
    · simp only [List.mem_singleton] at hm
      subst hm
      have := hd.id
      simp only [List.length_append, List.length_cons, List.length_nil]; omega

theorem DefsOk.srtd {s : Int} {l : List D} (h : DefsOk s l) : Srtd l := by
  induction h with
  | nil => exact ⟨.nil, fun d hd => by cases hd⟩
  | snoc h hd ih =>
    refine ⟨List.pairwise_append.2 ⟨ih.inc, List.pairwise_singleton _ _, fun a ha b hb => ?_⟩, fun d hm c hc => ?_⟩
    · simp only [List.mem_singleton] at hb
      subst hb
      have := h.ids a ha; have := hd.id; omega
    · rcases List.mem_append.1 hm with hm | hm
      · exact ih.calls d hm c hc
      · simp only [List.mem_singleton] at hm
        subst hm
        obtain ⟨k, hk, rfl⟩ := hd.callsLt c hc
        obtain ⟨e, he, rfl⟩ := List.mem_map.1 hk
        have := h.ids e he; have := hd.id
        simp only [headOf]; omega

theorem DefsOk.each {s : Int} {l : List D} (h : DefsOk s l) : ∀ d ∈ l, ∃ hs i th s', DefOk hs declared i th s' d := by
  induction h with
  | nil => intro d hd; cases hd
  | snoc h hd ih =>
    intro d hm
    rcases List.mem_append.1 hm with hm | hm
    · exact ih d hm
    · simp only [List.mem_singleton] at hm
      subst hm
      exact ⟨_, _, _, _, hd⟩

theorem DefOk.flat40 {hs : List Hd} {dc : Dc} {i : Int} {th : Bool} {s : Int} {d : D} (h : DefOk hs dc i th s d) : (flatL d.body).length + 1 ≤ 40 := by
  have h1 := h.sites.length
  have h2 := h.len
  simp [sitesL] at h1
  omega

theorem PgOk.small {p : Pg} (ok : PgOk p) : Small p := by
  have := ok.n1
  obtain ⟨s, hs⟩ := ok.defs
  refine ⟨by omega, fun d hd => ?_⟩
  obtain ⟨_, _, _, _, h⟩ := hs.each d hd
  have := h.flat40; have := h.calls
  rw [nC] at this
  omega

theorem closed_small {p : Pg} (h : Small p) (n : Int) : Small (closedP p n) := by
  have := List.length_filter_le (fun d => decide (d.id ≠ n) || p.threads.contains n) p.defs
  exact ⟨Nat.lt_of_le_of_lt this h.1, fun d hd => h.2 d (List.mem_filter.1 hd).1⟩

theorem ids_nodup {ds : List D} (h : Srtd ds) : (ds.map D.id).Nodup := by
  rw [List.Nodup, List.pairwise_map]
  exact h.inc.imp fun h => by omega

theorem ins_all : ∀ (l a : List Int), (a ++ l).Nodup → l.foldl ins a = a ++ l
  | [], a, _ => by simp
  | x :: l, a, h => by
    have hx : x ∉ a := fun hx => by
      have := (List.nodup_append.1 h).2.2 x hx x (by simp)
      exact this rfl
    rw [List.foldl_cons, ins, if_neg hx, ins_all l (a ++ [x]) (by simpa using h)]
    simp

theorem orderF_eq (p : Pg) (h : Srtd p.defs) : ∀ (rest pre : List D), p.defs = pre ++ rest → orderF rest.length p (rest.map D.id) = rest.map D.id
  | [], pre, _ => rfl
  | d :: rest, pre, e => by
    have hinc := h.inc
    rw [e] at hinc
    obtain ⟨h1, h2, h3⟩ := List.pairwise_append.1 hinc
    obtain ⟨h4, h5⟩ := List.pairwise_cons.1 h2
    have hnin : ∀ x ∈ pre, readyB ((d :: rest).map D.id) x = false := by
      intro x hx
      have : x.id ∉ (d :: rest).map D.id := fun hm => by
        obtain ⟨y, hy, e⟩ := List.mem_map.1 hm
        have := h3 x hx y hy; omega
      rw [readyB, List.contains_eq_mem, decide_eq_false this]; rfl
    have hrd : readyB ((d :: rest).map D.id) d = true := by
      rw [readyB, List.contains_eq_mem, decide_eq_true (by simp), Bool.true_and, Bool.not_eq_true', List.any_eq_false]
      intro c hc hm
      have hlt := h.calls d (by rw [e]; simp) c hc
      rw [List.contains_eq_mem, decide_eq_true_eq] at hm
      obtain ⟨y, hy, e2⟩ := List.mem_map.1 hm
      rcases List.mem_cons.1 hy with rfl | hy
      · omega
      · have := h4 y hy; omega
    have hfind : p.defs.find? (readyB ((d :: rest).map D.id)) = some d := by
      rw [e, List.find?_append, List.find?_eq_none.2 (by simpa using hnin), List.find?_cons_of_pos hrd]; rfl
    rw [List.length_cons, orderF, hfind, List.map_cons]
    simp only [List.erase_cons_head]
    rw [orderF_eq p h rest (pre ++ [d]) (by rw [e]; simp)]

theorem orderD_eq (p : Pg) (h : Srtd p.defs) : orderD p = p.defs.map D.id := by
  have h0 : open0 p = p.defs.map D.id := by
    have := ins_all (p.defs.map D.id) [] (by simpa using ids_nodup h)
    simpa [open0] using this
  rw [orderD, h0, List.length_map]
  exact orderF_eq p h p.defs [] rfl

/-- What is found. -/
theorem find_srtd {p : Pg} (h : Srtd p.defs) {d : D} (hd : d ∈ p.defs) : findD p d.id = some d := by
  rw [findD]
  have hinc := h.inc
  generalize p.defs = l at hd hinc
  induction l with
  | nil => cases hd
  | cons x l ih =>
    obtain ⟨h1, h2⟩ := List.pairwise_cons.1 hinc
    rcases List.mem_cons.1 hd with rfl | hd
    · rw [List.find?_cons_of_pos (by simp)]
    · rw [List.find?_cons_of_neg (by have := h1 d hd; simp; omega)]
      exact ih hd h2
theorem found_mem {p : Pg} {i : Int} (h : (findD p i).isSome = true) : ∃ d ∈ p.defs, d.id = i := by
  obtain ⟨d, hd⟩ := Option.isSome_iff_exists.1 h
  exact ⟨d, List.mem_of_find?_eq_some hd, by simpa using List.find?_some hd⟩
end Go.Par
