/- slices.Insert at []int of one value, on a row of the call's own: all four roads in one contract; the plain law of the sorted list. -/
import Derived.Test.YtibjbpakbfodaaaShelf
import Derived.Test.YtibjbpakbfodaaaPeer
import Derived.Lib.Hide
namespace Go.Proofs.Ytibjbpakbfodaaa
open Go.RowKit

/-- A list with others over it from place o on. -/
def over : List Value → Nat → List Value → List Value
  | l, _, [] => l
  | l, o, v :: r => over (l.set o v) (o + 1) r

theorem over_length : ∀ (vs l : List Value) (o : Nat), (over l o vs).length = l.length
  | [], _, _ => rfl
  | v :: r, l, o => by rw [over, over_length r]; simp

theorem over_get : ∀ (vs l : List Value) (o : Nat), o + vs.length ≤ l.length → ∀ j, (over l o vs)[j]? = if o ≤ j ∧ j < o + vs.length then vs[j - o]? else l[j]?
  | [], l, o, _, j => by rw [over, if_neg (by simp)]
  | v :: r, l, o, h, j => by
    simp only [List.length_cons] at h
    rw [over, over_get r (l.set o v) (o + 1) (by simp; omega) j, List.length_cons]
    by_cases h1 : o + 1 ≤ j ∧ j < o + 1 + r.length
    · rw [if_pos h1, if_pos (by omega), show j - o = (j - (o + 1)) + 1 from by omega, List.getElem?_cons_succ]
    · rw [if_neg h1]
      by_cases h2 : j = o
      · subst h2
        rw [if_pos (by omega), Nat.sub_self, List.getElem?_set, if_pos rfl, if_pos (by omega)]
        rfl
      · rw [if_neg (by omega), List.getElem?_set, if_neg (by omega)]

theorem setCells_blk {b : Nat} {t : TypeId} : ∀ (vs : List Value) (o : Nat) (w : World) (cur : Array Value), w.heap[b]? = some (.cells cur t (0, 0)) →
    (w.setCells b o vs).heap[b]? = some (.cells (over cur.toList o vs).toArray t (0, 0)) ∧ w.grownBy (w.setCells b o vs) (some b) ∧ (w.setCells b o vs).heap.size = w.heap.size
  | [], o, w, cur, h => ⟨by show w.heap[b]? = _; rw [h]; simp [over], ⟨rfl, rfl, rfl, Nat.le_refl _, fun _ _ _ => rfl⟩, rfl⟩
  | v :: r, o, w, cur, h => by
    obtain ⟨a1, a2, a3⟩ := setCells_blk r (o + 1) (w.setCell ⟨b, o, none⟩ v) (cur.setIfInBounds o v) (setCell_blk h)
    refine ⟨?_, ⟨a2.os, a2.tape, a2.output, by have := a2.size; rw [setCell_size] at this; exact this, fun k hk hne => ?_⟩, by rw [World.setCells, a3, setCell_size]⟩
    · rw [World.setCells, a1, Array.toList_setIfInBounds]; rfl
    · rw [World.setCells, a2.block k (by rw [setCell_size]; exact hk) hne]
      exact Below.heap_setCell _ _ _ _ (fun e => hne (by rw [e]))

/-- x put in at place i. -/
def putIn (l : List Value) (i : Nat) (x : Value) : List Value := l.take i ++ x :: l.drop i

theorem putIn_length (l : List Value) (i : Nat) (x : Value) (hi : i ≤ l.length) : (putIn l i x).length = l.length + 1 := by
  unfold putIn; simp; omega

theorem putIn_get (l : List Value) (i : Nat) (x : Value) (hi : i ≤ l.length) (j : Nat) : (putIn l i x)[j]? = if j < i then l[j]? else if j = i then some x else l[j - 1]? := by
  unfold putIn
  rw [List.getElem?_append]
  simp only [List.length_take, Nat.min_eq_left hi]
  by_cases h1 : j < i
  · rw [if_pos h1, if_pos h1, List.getElem?_take, if_pos h1]
  · rw [if_neg h1, if_neg h1]
    by_cases h2 : j = i
    · subst h2; simp
    · rw [if_neg h2, show j - i = (j - 1 - i) + 1 from by omega, List.getElem?_cons_succ, List.getElem?_drop]
      congr 1; omega

theorem take_get {l : List Value} {n : Nat} {cs : List Value} (h : l.take n = cs) {j : Nat} (hj : j < n) : l[j]? = cs[j]? := by
  rw [← h, List.getElem?_take, if_pos hj]

/-- The two roads that grow, at this program's own numbers. -/
theorem ins_grow (b n c i vb : Nat) (cs : List Value) (x : Value) (w : World) (hi : i < n) (hnc : n ≤ c) (hroom : c < n + 1) (hbig : (n + 1) * 8 ≤ 140737488355328)
    (hcl : cs.length = n) (hcs : ∀ j v, cs[j]? = some v → w.cell? ⟨b, 0 + j, none⟩ = some v)
    (hvs : ∀ j v, [x][j]? = some v → w.cell? ⟨vb, 0 + j, none⟩ = some v) (h1c : ∀ v ∈ cs, v.oneCell' = true) (h1v : ∀ v ∈ [x], v.oneCell' = true) :
    Calls Try.prog 96 #[.slice (some ⟨b, 0, none⟩) n c, .int .i64 i, .slice (some ⟨vb, 0, none⟩) 1 1] w fun e w' =>
      e = .returned (.slice (some ⟨w.heap.size, 0, none⟩) (n + 1) (grownCap w (n + 1) c 3)) ∧
      w' = (((w.alloc (.cells ((cs.take i).toArray ++ Builtin.zeroCells (Value.int .i64 0).cells (n + 1 - i) ++ Builtin.zeroCells (Value.int .i64 0).cells (grownCap w (n + 1) c 3 - (n + 1))) 3)).drew.setCells w.heap.size i [x]).drew).setCells w.heap.size (i + 1) (cs.drop i) :=
  Any2.slices_Insert_int_grow Try.laysNm221 b 0 n c i vb 0 1 1 cs [x] w hi (by omega) hnc hroom hbig hcl rfl hcs hvs h1c h1v
theorem ins_end_grow (base : Option Addr) (n c vb : Nat) (cs : List Value) (x : Value) (w : World) (hnc : n ≤ c) (hroom : c < n + 1) (hbig : (n + 1) * 8 ≤ 140737488355328)
    (hcl : cs.length = n) (hnil : base = none → n = 0) (hcs : ∀ a, base = some a → ∀ j v, cs[j]? = some v → w.cell? (a.add j) = some v)
    (hvs : ∀ j v, [x][j]? = some v → w.cell? ⟨vb, 0 + j, none⟩ = some v) (h1v : ∀ v ∈ [x], v.oneCell' = true) :
    Calls Try.prog 96 #[.slice base n c, .int .i64 n, .slice (some ⟨vb, 0, none⟩) 1 1] w fun e w' =>
      e = .returned (.slice (some ⟨w.heap.size, 0, none⟩) (n + 1) (grownCap w (n + 1) c 3)) ∧
      w' = w.drew.alloc (.cells ((cs ++ [x]).toArray ++ Builtin.zeroCells (Value.int .i64 0).cells (grownCap w (n + 1) c 3 - (n + 1))) 3) :=
  Any2.slices_Insert_int_end_grow Try.laysNm221 base n c vb 0 1 1 cs [x] w (by omega) hnc hroom hbig hcl rfl hnil hcs hvs h1v

/-- The four roads of Insert, of one value, on a row of the call's own. -/
theorem insert_any {w : World} {v : Value} {n i vb : Nat} {cs : List Value} {x : Value} (hown : w.ownsRow 0 3 1 v n cs) (hi : i ≤ n) (hn : n ≤ 1000) (hx : x.oneCell' = true) (h1 : ∀ u ∈ cs, u.oneCell' = true)
    (hvb : w.heap[vb]? = some (.cells #[x] 3 (0, 0))) (hne : v.ownBlock ≠ some vb) :
    Calls Try.prog 96 #[v, .int .i64 (i : Int), .slice (some ⟨vb, 0, none⟩) 1 1] w fun e w' => ∃ g c, e = .returned (.slice (some ⟨g, 0, none⟩) (n + 1) c) ∧ w'.ownsRow 0 3 1 (.slice (some ⟨g, 0, none⟩) (n + 1) c) (n + 1) (putIn cs i x) ∧
      w.grownBy w' v.ownBlock ∧ (v.ownBlock = some g ∨ w.heap.size ≤ g) := by
  have hcl : cs.length = n := by rw [hown.1, Nat.mul_one]
  have hx1 : ∀ j u, [x][j]? = some u → w.cell? ⟨vb, 0 + j, none⟩ = some u := by
    intro j u hu
    rw [Nat.zero_add, cell_of_row w vb j _ _ _ hvb]
    simpa using hu
  have h1x : ∀ u ∈ [x], u.oneCell' = true := by intro u hu; simp at hu; subst hu; exact hx
  rcases hown.2 with ⟨rfl, rfl⟩ | ⟨g, cap, cur, rfl, _, hg, hnc, hcm, hcs, htake⟩
  · have hc0 : cs = [] := List.eq_nil_of_length_eq_zero hcl
    subst hc0
    obtain rfl : i = 0 := by omega
    refine (ins_end_grow none 0 0 vb [] x w (Nat.le_refl _) (by omega) (by omega) rfl (fun _ => rfl) (fun a ha => by cases ha) hx1 h1x).mono ?_
    rintro e w' ⟨rfl, rfl⟩
    have hge := grownCap_ge w (0 + 1) 0 3
    have hcm := grownCap_le_maxLen w (0 + 1) 0 3 (by simp [maxLen])
    refine ⟨_, _, rfl, ⟨rfl, .inr ⟨w.heap.size, _, _, rfl, Nat.zero_le _, heap_alloc_new w.drew _, hge, hcm, ?_, ?_⟩⟩, ⟨rfl, rfl, rfl, by simp, fun k hk _ => Below.heap_alloc w.drew _ k hk⟩, .inr (Nat.le_refl _)⟩
    · simp only [Array.size_append, List.size_toArray, size_zeroCells]
      show 1 + (grownCap w (0 + 1) 0 3 - (0 + 1)) * 1 = grownCap w (0 + 1) 0 3 * 1
      omega
    · simp [putIn]
  · have hcell : ∀ j u, cs[j]? = some u → w.cell? ⟨g, 0 + j, none⟩ = some u := by
      intro j u hu
      have hj : j < n := by have := (List.getElem?_eq_some_iff.1 hu).1; omega
      rw [Nat.zero_add, cell_of_row w g j _ _ _ hg, ← Array.getElem?_toList, take_get htake (by omega)]
      exact hu
    have hcur : cur.toList.length = cap := by simp [hcs]
    have hgv : vb ≠ g := fun e => hne (by simp [Value.ownBlock, e])
    by_cases hroom : n + 1 ≤ cap
    · have hsome : ∀ j, j < n + 1 → (w.cell? ⟨g, 0 + j, none⟩).isSome = true := by
        intro j hj
        rw [Nat.zero_add, cell_of_row w g j _ _ _ hg, Array.getElem?_eq_getElem (by omega)]
        rfl
      have hfz : ∀ j, w.frozen? ⟨g, j, none⟩ = false := fun j => frozen_of_row w g j _ _ hg
      by_cases hin : i < n
      · refine (Any2.slices_Insert_int_shift Try.laysNm221 g 0 n cap i vb 0 1 1 cs [x] w hin (by omega) hroom (by simp [maxLen] at hcm; omega) hgv hcl rfl hcell hsome (fun j _ => by rw [Nat.zero_add]; exact hfz j) hx1 h1 h1x
          3 3 1 cur.size (by simp [World.shape?, hvb]) (by simp [World.shape?, hg]) (by omega) (frozen_of_row w vb 0 _ _ hvb) (frozen_of_row w vb 1 _ _ hvb)).mono ?_
        rintro e w' ⟨rfl, rfl⟩
        obtain ⟨a1, a2, a3⟩ := setCells_blk (b := g) (t := 3) (cs.drop i) (0 + (i + 1)) w.drew cur hg
        obtain ⟨b1, b2, b3⟩ := setCells_blk (b := g) (t := 3) [x] (0 + i) (w.drew.setCells g (0 + (i + 1)) (cs.drop i)) _ a1
        refine ⟨g, cap, rfl, ⟨by rw [putIn_length _ _ _ (by omega)]; omega, .inr ⟨g, cap, _, rfl, Nat.zero_le _, b1, hroom, hcm, ?_, ?_⟩⟩,
          ⟨b2.os.trans a2.os, b2.tape.trans a2.tape, b2.output.trans a2.output, Nat.le_trans a2.size b2.size, fun k hk hne' => (b2.block k (Nat.lt_of_lt_of_le hk a2.size) hne').trans (a2.block k hk hne')⟩, .inl rfl⟩
        · simp [over_length, hcs]
        · apply List.ext_getElem?
          intro j
          have hl1 : (cs.drop i).length = n - i := by rw [List.length_drop]; omega
          rw [putIn_get _ _ _ (by omega), List.getElem?_take]
          simp only [Nat.mul_one]
          by_cases hj : j < n + 1
          · rw [if_pos hj, over_get _ _ _ (by simp [over_length]; omega), over_get _ _ _ (by simp; omega)]
            simp only [List.length_singleton, hl1, Nat.zero_add]
            by_cases h3 : j < i
            · rw [if_neg (by omega), if_neg (by omega), if_pos h3]
              exact take_get htake (by omega)
            · rw [if_neg h3]
              by_cases h4 : j = i
              · subst h4; rw [if_pos (by omega), if_pos rfl]; simp
              · rw [if_neg (by omega), if_pos (by omega), if_neg h4, List.getElem?_drop]
                congr 1; omega
          · rw [if_neg hj, if_neg (by omega), if_neg (by omega), List.getElem?_eq_none (by omega)]
      · obtain rfl : i = n := by omega
        refine (Any2.slices_Insert_int_end_room Try.laysNm221 g 0 i cap vb 0 1 1 [x] w (by omega) hroom (by simp [maxLen] at hcm; omega) rfl (fun j hj => by have := hsome (i + j) (by omega); rw [show 0 + i + j = 0 + (i + j) from by omega]; exact this) (fun j hj => hfz _) hx1 h1x).mono ?_
        rintro e w' ⟨rfl, rfl⟩
        obtain ⟨b1, b2, b3⟩ := setCells_blk (b := g) (t := 3) [x] (0 + i) w cur hg
        refine ⟨g, cap, rfl, ⟨by rw [putIn_length _ _ _ (by omega)]; omega, .inr ⟨g, cap, _, rfl, Nat.zero_le _, b1, hroom, hcm, ?_, ?_⟩⟩, b2, .inl rfl⟩
        · simp [over_length, hcs]
        · apply List.ext_getElem?
          intro j
          rw [putIn_get _ _ _ (by omega), List.getElem?_take]
          simp only [Nat.mul_one]
          by_cases hj : j < i + 1
          · rw [if_pos hj, over_get _ _ _ (by simp; omega)]
            simp only [List.length_singleton, Nat.zero_add]
            by_cases h3 : j < i
            · rw [if_neg (by omega), if_pos h3]
              exact take_get htake (by omega)
            · rw [if_neg h3]
              have h4 : j = i := by omega
              subst h4; rw [if_pos (by omega), if_pos rfl]; simp
          · rw [if_neg hj, if_neg (by omega), if_neg (by omega), List.getElem?_eq_none (by omega)]
    · have hge := grownCap_ge w (n + 1) cap 3
      have hcm' := grownCap_le_maxLen w (n + 1) cap 3 (by simp [maxLen]; omega)
      by_cases hin : i < n
      · refine (ins_grow g n cap i vb cs x w hin hnc (by omega) (by omega) hcl hcell hx1 h1 h1x).mono ?_
        rintro e w' ⟨rfl, rfl⟩
        have h0 := heap_alloc_new w (.cells ((cs.take i).toArray ++ Builtin.zeroCells (Value.int .i64 0).cells (n + 1 - i) ++ Builtin.zeroCells (Value.int .i64 0).cells (grownCap w (n + 1) cap 3 - (n + 1))) 3)
        obtain ⟨a1, a2, a3⟩ := setCells_blk (b := w.heap.size) (t := 3) [x] i (w.alloc (.cells ((cs.take i).toArray ++ Builtin.zeroCells (Value.int .i64 0).cells (n + 1 - i) ++ Builtin.zeroCells (Value.int .i64 0).cells (grownCap w (n + 1) cap 3 - (n + 1))) 3)).drew _ h0
        obtain ⟨b1, b2, b3⟩ := setCells_blk (b := w.heap.size) (t := 3) (cs.drop i) (i + 1) (((w.alloc (.cells ((cs.take i).toArray ++ Builtin.zeroCells (Value.int .i64 0).cells (n + 1 - i) ++ Builtin.zeroCells (Value.int .i64 0).cells (grownCap w (n + 1) cap 3 - (n + 1))) 3)).drew.setCells w.heap.size i [x]).drew) _ a1
        have hsz : ((cs.take i).toArray ++ Builtin.zeroCells (Value.int .i64 0).cells (n + 1 - i) ++ Builtin.zeroCells (Value.int .i64 0).cells (grownCap w (n + 1) cap 3 - (n + 1))).size = grownCap w (n + 1) cap 3 := by
          simp only [Array.size_append, List.size_toArray, size_zeroCells, List.length_take]
          show min i cs.length + (n + 1 - i) * 1 + (grownCap w (n + 1) cap 3 - (n + 1)) * 1 = _
          omega
        refine ⟨w.heap.size, _, rfl, ⟨by rw [putIn_length _ _ _ (by omega)]; omega, .inr ⟨w.heap.size, _, _, rfl, Nat.zero_le _, b1, hge, hcm', ?_, ?_⟩⟩, ⟨b2.os.trans a2.os, b2.tape.trans a2.tape, b2.output.trans a2.output, ?_, fun k hk _ => ?_⟩, .inr (Nat.le_refl _)⟩
        · simp only [List.size_toArray, over_length, Array.length_toList, hsz, Nat.mul_one]
        · apply List.ext_getElem?
          intro j
          have hl1 : (cs.drop i).length = n - i := by rw [List.length_drop]; omega
          rw [putIn_get _ _ _ (by omega), List.getElem?_take]
          simp only [Nat.mul_one]
          by_cases hj : j < n + 1
          · rw [if_pos hj, over_get _ _ _ (by simp only [over_length, Array.length_toList, hsz]; omega), over_get _ _ _ (by simp only [Array.length_toList, hsz, List.length_singleton]; omega)]
            simp only [List.length_singleton, hl1]
            by_cases h3 : j < i
            · rw [if_neg (by omega), if_neg (by omega), if_pos h3]
              rw [Array.getElem?_toList, Array.getElem?_append, if_pos (by simp; omega), Array.getElem?_append, if_pos (by simp; omega), List.getElem?_toArray, List.getElem?_take, if_pos h3]
            · rw [if_neg h3]
              by_cases h4 : j = i
              · subst h4; rw [if_neg (by omega), if_pos (by omega), if_pos rfl]; simp
              · rw [if_pos (by omega), if_neg h4, List.getElem?_drop]
                congr 1; omega
          · rw [if_neg hj, if_neg (by omega), if_neg (by omega), List.getElem?_eq_none (by omega)]
        · exact Nat.le_trans (Nat.le_trans (by simp) a2.size) b2.size
        · rw [b2.block k (Nat.lt_of_lt_of_le hk (Nat.le_trans (by simp) a2.size)) (fun e => by have := Option.some.inj e; omega)]
          show (World.setCells _ _ _ _).heap[k]? = _
          rw [a2.block k (Nat.lt_of_lt_of_le hk (by simp)) (fun e => by have := Option.some.inj e; omega)]
          exact Below.heap_alloc _ _ _ hk
      · obtain rfl : i = n := by omega
        refine (ins_end_grow (some ⟨g, 0, none⟩) i cap vb cs x w hnc (by omega) (by omega) hcl (fun h => by cases h) (fun a ha j u hu => by injection ha with ha; subst ha; rw [Addr.add_lit]; exact hcell j u hu) hx1 h1x).mono ?_
        rintro e w' ⟨rfl, rfl⟩
        refine ⟨_, _, rfl, ⟨by rw [putIn_length _ _ _ (by omega)]; omega, .inr ⟨w.heap.size, _, _, rfl, Nat.zero_le _, heap_alloc_new w.drew _, hge, hcm', ?_, ?_⟩⟩, ⟨rfl, rfl, rfl, by simp, fun k hk _ => Below.heap_alloc w.drew _ k hk⟩, .inr (Nat.le_refl _)⟩
        · simp only [Array.size_append, List.size_toArray, size_zeroCells, List.length_append, List.length_singleton, hcl]
          show i + 1 + (grownCap w (i + 1) cap 3 - (i + 1)) * 1 = grownCap w (i + 1) cap 3 * 1
          omega
        · unfold putIn
          rw [show List.take i cs = cs from List.take_of_length_le (by omega), show List.drop i cs = [] from List.drop_of_length_le (by omega), Nat.mul_one, Array.toList_append]
          exact List.take_left' (by simp [hcl])

/-- Of a list that rises, and is right: from each one on. -/
theorem votesOk_rising {n : Int} : ∀ (l : List Int) (a : Int), votesOk n a l = true → l.Pairwise (· < ·) ∧ (∀ v ∈ l, a < v ∧ 1 ≤ v ∧ v ≤ n)
  | [], _, _ => ⟨.nil, fun v hv => by simp at hv⟩
  | v :: t, a, h => by
    simp only [votesOk, peerB, Bool.and_eq_true, decide_eq_true_eq] at h
    obtain ⟨⟨⟨h1, h2⟩, h3⟩, h4⟩ := h
    obtain ⟨i1, i2⟩ := votesOk_rising t v h4
    refine ⟨.cons (fun u hu => (i2 u hu).1) i1, fun u hu => ?_⟩
    rcases List.mem_cons.1 hu with rfl | hu
    · exact ⟨h3, h1, h2⟩
    · have := i2 u hu; omega

theorem insertB_there (k : Int) : ∀ (l : List Int), l.Pairwise (· < ·) → k ∈ l → insertB k l = l
  | [], _, h => by simp at h
  | v :: t, hp, h => by
    obtain ⟨h1, h2⟩ := List.pairwise_cons.1 hp
    unfold insertB
    rcases List.mem_cons.1 h with rfl | h
    · rw [if_neg (by omega), if_pos rfl]
    · have := h1 k h
      rw [if_pos this, insertB_there k t h2 h]

theorem insertB_new (k : Int) : ∀ (l : List Int), l.Pairwise (· < ·) → k ∉ l → insertB k l = l.take (l.countP (· < k)) ++ k :: l.drop (l.countP (· < k))
  | [], _, _ => by simp [insertB]
  | v :: t, hp, h => by
    obtain ⟨h1, h2⟩ := List.pairwise_cons.1 hp
    have hv : v ≠ k := fun e => h (by simp [e])
    have ht : k ∉ t := fun e => h (by simp [e])
    unfold insertB
    by_cases hlt : v < k
    · rw [if_pos hlt, insertB_new k t h2 ht, List.countP_cons, if_pos (by simpa using hlt)]
      simp
    · rw [if_neg hlt, if_neg hv]
      have h0 : t.countP (· < k) = 0 := by
        rw [List.countP_eq_zero]
        intro u hu
        have := h1 u hu
        simp; omega
      rw [List.countP_cons, h0, if_neg (by simpa using hlt)]
      simp

theorem intCells_putIn (l : List Int) (i : Nat) (k : Int) : putIn (intCells l) i (.int .i64 k) = intCells (l.take i ++ k :: l.drop i) := by
  unfold putIn intCells
  simp [List.map_take, List.map_drop]
end Go.Proofs.Ytibjbpakbfodaaa
