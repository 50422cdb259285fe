/- cluster.node, walked: the number of a node in the list, or -1. slices.Delete of messages, walked: in a row of the call's own some messages are taken out. A world of nodes and messages in memory: what reads as it. Lemmas for the walk of cluster.Step: no walk is here. -/
import Derived.Test.YtibjbpakbfodaaaXPureC
import Derived.Test.YtibjbpakbfodaaaXExpa
import Derived.Test.YtibjbpakbfodaaaXExpc
import Derived.Deep.RegionLaw
import Derived.Lib.SliceRun
namespace Go.Proofs.Ytibjbpakbfodaaa
open Go.RowKit

/-- The number of a node in a list of so many; below 0: there is none. -/
def spot (len : Nat) (id : Int) : Int := if id < 1 ∨ (len : Int) < id then -1 else id - 1

set_option maxRecDepth 100000 in
set_option maxHeartbeats 2000000 in
theorem node_any {w : World} {b len c : Nat} {A : Option Addr} (h0 : w.cell? ⟨b, 0, none⟩ = some (.slice A len c)) (hl : len ≤ 1000) (id : Int) :
    Calls Try.prog 83 #[.pointer (some ⟨b, 0, none⟩), .int .i64 id] w fun e w' => e = .returned (.int .i64 (spot len id)) ∧ w' = w := by
  go_enter Try.func83, Try.ntmps83
  cases q1 : decide (id < 1)
  case true =>
    have hr : spot len id = -1 := by unfold spot; rw [if_pos (.inl (by simpa using q1))]
    have HR := Lib.hid hr
    clear hr
    go_wp2_with fail
    go_ret
    exact ⟨by rw [HR.out]; rfl, rfl⟩
  case false =>
    have h1 : ¬ id < 1 := by simpa using q1
    cases q2 : decide ((len : Int) < id)
    case true =>
      have hr : spot len id = -1 := by unfold spot; rw [if_pos (.inr (by simpa using q2))]
      have HR := Lib.hid hr
      clear hr h1
      go_wp2_with fail
      go_ret
      exact ⟨by rw [HR.out]; rfl, rfl⟩
    case false =>
      have h2 : ¬ (len : Int) < id := by simpa using q2
      have hr : spot len id = id - 1 := by unfold spot; rw [if_neg (by omega)]
      have HR := Lib.hid hr
      have hw : IntKind.i64.wrap (id - 1) = id - 1 := IntWalk.i64_in _ (by omega)
      have h2' := h2
      clear hr
      go_wp2_with fail
      go_ret
      exact ⟨by rw [HR.out]; rfl, rfl⟩
end Go.Proofs.Ytibjbpakbfodaaa
namespace Go.Proofs.Ytibjbpakbfodaaa
open Go.RowKit

theorem setCells_row (r t : Nat) : ∀ (vs : List Value) (w : World) (k : Nat) (cs : Array Value), w.heap[r]? = some (.cells cs t (0, 0)) → k + vs.length ≤ cs.size →
    (w.setCells r k vs).heap[r]? = some (.cells (cs.toList.take k ++ vs ++ cs.toList.drop (k + vs.length)).toArray t (0, 0)) ∧ Keeps (fun j => j = r) w (w.setCells r k vs)
  | [], w, k, cs, h, hk => by
    refine ⟨?_, Keeps.refl _ w⟩
    unfold World.setCells
    rw [h, List.append_nil]
    simp
  | v :: vs, w, k, cs, h, hk => by
    simp only [List.length_cons] at hk
    obtain ⟨h1, h2⟩ := setCells_row r t vs (w.setCell ⟨r, k, none⟩ v) (k + 1) (cs.setIfInBounds k v) (setCell_blk h) (by simp; omega)
    refine ⟨?_, ((Keeps.refl (fun j => j = r) w).setCell (p := ⟨r, k, none⟩) (.inl rfl) v).trans h2 fun _ h => .inl h⟩
    unfold World.setCells
    rw [h1]
    congr 2
    simp only [Array.toList_setIfInBounds, List.length_cons]
    rw [List.take_succ_eq_append_getElem (by simp; omega), List.take_set_of_le (Nat.le_refl _), List.drop_set_of_lt (by omega)]
    simp [show k + 1 + vs.length = k + (vs.length + 1) by omega]

/-- Nothing, n times. -/
def zeros9 (n : Nat) : List Value := (Builtin.zeroCells #[.int .i64 0, .int .i64 0, .int .i64 0, .int .i64 0, .int .i64 0, .int .i64 0, .int .i64 0, .slice none 0 0, .bool false] n).toList
theorem zeros9_len (n : Nat) : (zeros9 n).length = n * 9 := by simp [zeros9, Builtin.zeroCells]
theorem zeros9_one (n : Nat) : ∀ v ∈ zeros9 n, v.oneCell' = true := by
  intro v hv
  simp only [zeros9, Builtin.zeroCells, Array.toList_map, List.mem_map, Array.toList_range, List.mem_range] at hv
  obtain ⟨i, _, rfl⟩ := hv
  have hlt : i % 9 < 9 := Nat.mod_lt _ (by decide)
  generalize i % 9 = j at hlt
  show ((#[Value.int .i64 0, .int .i64 0, .int .i64 0, .int .i64 0, .int .i64 0, .int .i64 0, .int .i64 0, .slice none 0 0, .bool false] : Array Value)[j]!).oneCell' = true
  rcases j with _ | _ | _ | _ | _ | _ | _ | _ | _ | j <;> first | rfl | omega

theorem run_clear9 (w : World) (ty : TypeId) (b o n c : Nat) (hn : 0 < n) (hc : ∀ j, j < n * 9 → (w.cell? ⟨b, o + j, none⟩).isSome = true) (hf : ∀ j, j < n * 9 → w.frozen? ⟨b, o + j, none⟩ = false) :
    (Builtin.clear_ #[28] ty #[.slice (some ⟨b, o, none⟩) n c]).run Try.prog w = .ok (.tuple #[]) (w.setCells b o (zeros9 n)) := by
  have hst := run_storeCells_cells (P := Try.prog) b o (zeros9 n) 0 w (by rw [zeros9_len]; simpa using hc) (by rw [zeros9_len]; simpa using hf) (zeros9_one n)
  simp only [Nat.add_zero] at hst
  obtain ⟨m, rfl⟩ : ∃ m, n = m + 1 := ⟨n - 1, by omega⟩
  have hz : (Builtin.zeroCells (Value.agg #[.int .i64 0, .int .i64 0, .int .i64 0, .int .i64 0, .int .i64 0, .int .i64 0, .int .i64 0, .slice none 0 0, .bool false]).cells (m + 1)).toList = zeros9 (m + 1) := rfl
  simp [Builtin.clear_, run_underlying Try.underlying28, hz, hst]


theorem Try.info38' : (Try.prog.info? 38).map (fun i => (i.zero, i.size, i.bytes)) = some (some (.agg #[.int .i64 0, .int .i64 0, .int .i64 0, .int .i64 0, .int .i64 0, .int .i64 0, .int .i64 0, .slice none 0 0, .bool false]), 9, 88) := by kernel_rfl

set_option maxRecDepth 100000 in
set_option maxHeartbeats 4000000 in
theorem delete_any {w : World} {g n cap i j : Nat} {cur : Array Value} (hb : w.heap[g]? = some (.cells cur 38 (0, 0))) (hcur : cur.size = cap * 9) (hn : n ≤ cap) (_ : cap ≤ maxLen) (hij : i < j) (hj : j ≤ n)
    (h1 : ∀ u ∈ cur.toList.take (n * 9), u.oneCell' = true) :
    Calls Try.prog 84 #[.slice (some ⟨g, 0, none⟩) n cap, .int .i64 i, .int .i64 j] w fun e w' => e = .returned (.slice (some ⟨g, 0, none⟩) (n - (j - i)) cap) ∧
      ∃ cur', w'.heap[g]? = some (.cells cur' 38 (0, 0)) ∧ cur'.size = cap * 9 ∧ cur'.toList.take ((n - (j - i)) * 9) = cur.toList.take (i * 9) ++ (cur.toList.take (n * 9)).drop (j * 9) ∧ Keeps (fun k => k = g) w w' := by
  obtain ⟨i0, hi0, hz0, hz1, hz2⟩ := info_parts Try.info38'
  obtain ⟨news, hnews⟩ : ∃ news, news = (cur.toList.take (n * 9)).drop (j * 9) := ⟨_, rfl⟩
  have hlen : news.length = (n - j) * 9 := by rw [hnews]; simp; omega
  have hcell : ∀ k (hk : k < cap * 9), w.cell? ⟨g, k, none⟩ = some (cur[k]'(by omega)) := fun k hk => by
    rw [cell_of_row w g k _ _ _ hb, Array.getElem?_eq_getElem (by omega)]
  have hfz : ∀ k, w.frozen? ⟨g, k, none⟩ = false := fun k => frozen_of_row w g k _ _ hb
  obtain ⟨A, hA, hsrc⟩ : ∃ A : Addr, (if cap = j then (some ⟨g, 0, none⟩ : Option Addr) else some ⟨g, j * 9, none⟩) = some A ∧ Hid (∀ t u, news[t]? = some u → w.drew.cell? (A.add t) = some u) := by
    by_cases h : cap = j
    · refine ⟨⟨g, 0, none⟩, by simp [h], fun t u hu => ?_⟩
      have h0 : news.length = 0 := by rw [hlen]; omega
      rw [List.length_eq_zero_iff.1 h0] at hu
      simp at hu
    · refine ⟨⟨g, j * 9, none⟩, by simp [h], fun t u hu => ?_⟩
      have ht : t < (n - j) * 9 := by
        have := (List.getElem?_eq_some_iff.1 hu).1
        rwa [hlen] at this
      rw [Addr.add_lit]
      show w.cell? ⟨g, j * 9 + t, none⟩ = some u
      rw [hcell (j * 9 + t) (by omega), ← hu, hnews, List.getElem?_drop, List.getElem?_take_of_lt (by omega), Array.getElem?_toList, Array.getElem?_eq_getElem (by omega)]
  have s1 : Hid (news.length = (n - j) * 9) := hlen
  have s2 : Hid (∀ u ∈ news, u.oneCell' = true) := fun u hu => h1 u (by rw [hnews] at hu; exact List.mem_of_mem_drop hu)
  have s3 : Hid (∀ t, t < news.length → (w.drew.cell? ⟨g, 0 + i * 9 + t, none⟩).isSome = true ∧ w.drew.frozen? ⟨g, 0 + i * 9 + t, none⟩ = false) := by
    intro t ht
    rw [hlen] at ht
    exact ⟨by show (w.cell? _).isSome = true; rw [hcell _ (by omega)]; rfl, hfz _⟩
  obtain ⟨W1, hW1⟩ : ∃ W1, W1 = w.drew.setCells g (0 + i * 9) news := ⟨_, rfl⟩
  obtain ⟨b1, b2⟩ := setCells_row g 38 news w.drew (0 + i * 9) cur hb (by rw [hlen]; omega)
  rw [← hW1] at b1 b2
  have hsz1 : (cur.toList.take (0 + i * 9) ++ news ++ cur.toList.drop (0 + i * 9 + news.length)).length = cap * 9 := by simp [hlen]; omega
  have hcl : ∀ ty, (Builtin.clear_ #[28] ty #[.slice (some ⟨g, (i + (n - j)) * 9, none⟩) (n - (i + (n - j))) (cap - (i + (n - j)))]).run Try.prog W1 = .ok (.tuple #[]) (W1.setCells g ((i + (n - j)) * 9) (zeros9 (n - (i + (n - j))))) :=
    fun ty => run_clear9 W1 ty g ((i + (n - j)) * 9) _ _ (by omega) (fun t ht => by rw [cell_of_row W1 g _ _ _ _ b1, Array.getElem?_eq_getElem (by rw [List.size_toArray, hsz1]; omega)]; rfl) (fun t ht => frozen_of_row W1 g _ _ _ b1)
  obtain ⟨c1, c2⟩ := setCells_row g 38 (zeros9 (n - (i + (n - j)))) W1 ((i + (n - j)) * 9) _ b1 (by rw [zeros9_len, List.size_toArray, hsz1]; omega)
  have HC1 := Lib.hid c1; have HK := Lib.hid (((Keeps.refl (fun k => k = g) w).drew.trans b2 fun _ h => .inl h).trans c2 fun _ h => .inl h)
  have hW : Hid (W1 = w.drew.setCells g (0 + i * 9) news) := hW1
  have HSZ := Lib.hid hsz1; have HN := Lib.hid hnews; have HL := Lib.hid hlen; have HCUR := Lib.hid hcur
  have hic : i ≤ cap := by omega
  have hjc : j ≤ cap := by omega
  have hne : (i == j) = false := by simpa using Nat.ne_of_lt hij
  have hne' : ((i : Int) == (j : Int)) = false := by simp; omega
  have hcc : ¬ cap = i + (n - j) := by omega
  clear hW1 hcell hfz b1 b2 c1 c2 hsz1 hnews hlen hcur hb h1
  rename_i hcap; unfold maxLen at hcap
  go_enter Try.func84, Try.ntmps84
  go_wp2_with fail
  go_region_law (refine step_append_room rfl (.tmp 22) (.tmp 25) 28 rfl 38 i0 9 Try.underlying28 hi0 hz1 g 0 i cap (by simp [Act.eval, Act.put]) A (n - j) (cap - j) news (by simp [Act.eval, Act.put]) s1.out hsrc.out s2.out (by omega) s3.out ?_; rw [← hW.out])
  go_wp2
  go_ret
  have hL := HSZ.out
  refine ⟨by rw [show n - (j - i) = i + (n - j) by omega]; rfl, _, HC1.out, ?_, ?_, HK.out⟩
  · simp only [List.size_toArray, List.length_append, List.length_take, List.length_drop, zeros9_len, Array.length_toList]
    have := HCUR.out; have := HL.out
    omega
  · rw [show n - (j - i) = i + (n - j) by omega]
    have hl1 : (cur.toList.take (0 + i * 9)).length = i * 9 := by rw [List.length_take]; have := HCUR.out; simp; omega
    simp only []
    rw [List.append_assoc, List.take_append_of_le_length (by rw [List.length_take, hL]; omega), List.take_take, Nat.min_self, List.append_assoc, List.take_append, hl1, List.take_of_length_le (by omega), show 0 + i * 9 = i * 9 by omega]
    congr 1
    rw [List.take_append_of_le_length (by rw [HL.out]; omega), List.take_of_length_le (by rw [HL.out]; omega)]
    exact HN.out

theorem flat_take {α : Type} (f : α → List Value) (s : Nat) (hf : ∀ x, (f x).length = s) (l : List α) (k : Nat) (hk : k ≤ l.length) : (l.flatMap f).take (k * s) = (l.take k).flatMap f := by
  have e : l.flatMap f = (l.take k).flatMap f ++ (l.drop k).flatMap f := by rw [← List.flatMap_append, List.take_append_drop]
  have hl : ((l.take k).flatMap f).length = k * s := by rw [flat_length f s hf, List.length_take, Nat.min_eq_left hk]
  rw [e, ← hl, List.take_left']
  rfl
theorem flat_drop {α : Type} (f : α → List Value) (s : Nat) (hf : ∀ x, (f x).length = s) (l : List α) (k : Nat) (hk : k ≤ l.length) : (l.flatMap f).drop (k * s) = (l.drop k).flatMap f := by
  have e : l.flatMap f = (l.take k).flatMap f ++ (l.drop k).flatMap f := by rw [← List.flatMap_append, List.take_append_drop]
  have hl : ((l.take k).flatMap f).length = k * s := by rw [flat_length f s hf, List.length_take, Nat.min_eq_left hk]
  rw [e, ← hl, List.drop_left']
  rfl

/-- The same, of a row of messages that is the call's own. -/
theorem deleteMsg_any {w : World} {v : Value} {out : List MesV} (h : w.ownsRow 0 38 9 v out.length (out.flatMap mesCells)) {i j : Nat} (hij : i < j) (hj : j ≤ out.length) (hv : ∀ m ∈ out, ∃ A n c, m.iv = .slice A n c) :
    Calls Try.prog 84 #[v, .int .i64 i, .int .i64 j] w fun e w' => ∃ v', e = .returned v' ∧ w'.ownsRow 0 38 9 v' (out.take i ++ out.drop j).length ((out.take i ++ out.drop j).flatMap mesCells) ∧ v'.ownBlock = v.ownBlock ∧ Keeps (fun k => v.ownBlock = some k) w w' := by
  rcases h.2 with ⟨_, h0⟩ | ⟨g, cap, cur, rfl, _, hb, h1, h2, h3, h4⟩
  · omega
  · refine (delete_any hb h3 h1 h2 hij hj (fun u hu => ?_)).mono ?_
    · rw [h4, List.mem_flatMap] at hu
      obtain ⟨m, hm, hu⟩ := hu
      obtain ⟨A, n, c, hv⟩ := hv m hm
      unfold mesCells at hu
      simp only [List.mem_cons, List.not_mem_nil, or_false] at hu
      rcases hu with h | h | h | h | h | h | h | h | h <;> subst h <;> first | rfl | (rw [hv]; rfl)
    · rintro e w' ⟨he, cur', c1, c2, c3, c4⟩
      have hlen : (out.take i ++ out.drop j).length = out.length - (j - i) := by simp; omega
      refine ⟨_, he, ?_, rfl, ?_⟩
      · rw [hlen]
        have hm : ∀ m, (mesCells m).length = 9 := fun _ => rfl
        refine ⟨by rw [flat_length _ 9 hm, hlen], .inr ⟨g, cap, cur', rfl, Nat.zero_le _, c1, by omega, h2, c2, ?_⟩⟩
        rw [c3, h4, List.flatMap_append]
        rw [flat_drop _ 9 hm out j hj, ← flat_take _ 9 hm out i (by omega), ← h4, List.take_take, Nat.min_eq_left (by omega)]
      · exact c4.mono fun k e => .inl (by rw [e]; rfl)
end Go.Proofs.Ytibjbpakbfodaaa
namespace Go.Proofs.Ytibjbpakbfodaaa
open Go.RowKit

/-- The nodes and the messages of a world, and the two values that stand for them. -/
structure WldV where
  nodes : List NodV
  net : List MesV
  nv : Value
  ov : Value

def WldV.w (W : WldV) : Wld := ⟨W.nodes.map NodV.n, said W.net⟩

structure WldOk (w : World) (S : Nat → Prop) (W : WldV) : Prop where
  cells : Sl w S W.nv 11 (W.nodes.flatMap nodCells)
  each : ∀ x ∈ W.nodes, NodeOk w S x
  msgs : MsgsOk w S W.ov W.net

theorem WldOk.into {w w' : World} {S S' S1 : Nat → Prop} {W : WldV} (h : WldOk w S W) (hk : Keeps S1 w w') (h1 : ∀ k, k < w.heap.size → S1 k → S k) (h2 : ∀ k, k < w.heap.size → S' k → S k) : WldOk w' S' W :=
  ⟨h.cells.into hk h1 h2, fun x hx => (h.each x hx).into hk h1 h2, h.msgs.into hk h1 h2⟩

theorem Sl.form {w : World} {S : Nat → Prop} {v : Value} {size : Nat} {xs : List Value} (h : Sl w S v size xs) {n : Nat} (hn : xs.length = n * size) (hs : 0 < size) : ∃ A c, v = .slice A n c := by
  obtain ⟨A, len, cap, hv, hl, _⟩ := h
  have : len = n := Nat.eq_of_mul_eq_mul_right hs (hl.symm.trans hn)
  subst this
  exact ⟨A, cap, hv⟩

theorem nods_len (l : List NodV) : (l.flatMap nodCells).length = l.length * 11 := flat_length _ 11 (fun _ => rfl) l
theorem mess_len (l : List MesV) : (l.flatMap mesCells).length = l.length * 9 := flat_length _ 9 (fun _ => rfl) l

theorem nods_one {w : World} {S : Nat → Prop} {l : List NodV} (h : ∀ x ∈ l, NodeOk w S x) : ∀ u ∈ l.flatMap nodCells, u.oneCell' = true := by
  intro u hu
  rw [List.mem_flatMap] at hu
  obtain ⟨x, hx, hu⟩ := hu
  obtain ⟨⟨A1, L1, C1, e1, _⟩, ⟨A2, L2, C2, e2, _⟩, ⟨A3, L3, C3, e3, _⟩, ⟨A4, L4, C4, e4, _⟩⟩ := h x hx
  simp only [nodCells, List.mem_cons, List.not_mem_nil, or_false] at hu
  rcases hu with h | h | h | h | h | h | h | h | h | h | h <;> subst h <;> first | rfl | (rw [e1]; rfl) | (rw [e2]; rfl) | (rw [e3]; rfl) | (rw [e4]; rfl)
theorem mess_one {w : World} {S : Nat → Prop} {l : List MesV} (h : ∀ m ∈ l, MesOk w S m) : ∀ u ∈ l.flatMap mesCells, u.oneCell' = true := by
  intro u hu
  rw [List.mem_flatMap] at hu
  obtain ⟨m, hm, hu⟩ := hu
  obtain ⟨A, L, C, e, _⟩ := h m hm
  simp only [mesCells, List.mem_cons, List.not_mem_nil, or_false] at hu
  rcases hu with h | h | h | h | h | h | h | h | h <;> subst h <;> first | rfl | (rw [e]; rfl)

/-- A step at work: block b holds the two rows, each its own; what they lead to lies in none of the blocks that are being written (old ones set apart, and those from B to C). -/
def Apart (Q : Nat → Prop) (B C : Nat) : Nat → Prop := fun k => Q k ∨ (B ≤ k ∧ k < C)

structure Stage (w : World) (Q : Nat → Prop) (B C b : Nat) (W : WldV) : Prop where
  blk : w.heap[b]? = some (.cells #[W.nv, W.ov] 55 (0, 0))
  nodes : w.ownsRow 0 25 11 W.nv W.nodes.length (W.nodes.flatMap nodCells)
  net : w.ownsRow 0 38 9 W.ov W.net.length (W.net.flatMap mesCells)
  each : ∀ x ∈ W.nodes, NodeOk w (Apart Q B C) x
  items : ∀ m ∈ W.net, MesOk w (Apart Q B C) m
  bB : B ≤ b
  bC : b < C
  nB : ∀ g, W.nv.ownBlock = some g → B ≤ g ∧ g < C
  oB : ∀ g, W.ov.ownBlock = some g → B ≤ g ∧ g < C
  Clt : C ≤ w.heap.size
  Bl : ∀ k, Q k → k < B

theorem Stage.ok {w : World} {Q : Nat → Prop} {B C b : Nat} {W : WldV} (h : Stage w Q B C b W) : WldOk w Q W :=
  ⟨Sl.of_own h.nodes fun g hg hq => by have := (h.nB g hg).1; have := h.Bl g hq; omega, fun x hx => (h.each x hx).into (Keeps.refl Free w) (fun _ _ h => h.elim) fun _ _ h => .inl h,
    Sl.of_own h.net fun g hg hq => by have := (h.oB g hg).1; have := h.Bl g hq; omega, fun m hm => Sl.into (h.items m hm) (Keeps.refl Free w) (fun _ _ h => h.elim) fun _ _ h => .inl h⟩

theorem Stage.later {w w' : World} {Q : Nat → Prop} {B C b : Nat} {W : WldV} (h : Stage w Q B C b W) (hk : Keeps Free w w') : Stage w' Q B C b W :=
  { blk := hk.blk h.blk, nodes := own_later h.nodes hk, net := own_later h.net hk, each := fun x hx => (h.each x hx).into hk (fun _ _ h => h.elim) fun _ _ h => h, items := fun m hm => Sl.into (h.items m hm) hk (fun _ _ h => h.elim) fun _ _ h => h,
    bB := h.bB, bC := h.bC, nB := h.nB, oB := h.oB, Clt := Nat.le_trans h.Clt hk.size, Bl := h.Bl }

/-- Two cells. -/
theorem cells2 {w : World} {b : Nat} {t : TypeId} {v0 v1 : Value} (h : w.heap[b]? = some (.cells #[v0, v1] t (0, 0))) : w.cell? ⟨b, 0, none⟩ = some v0 ∧ w.cell? ⟨b, 1, none⟩ = some v1 ∧ ∀ k, w.frozen? ⟨b, k, none⟩ = false :=
  ⟨cell_of_row w b 0 _ _ _ h, cell_of_row w b 1 _ _ _ h, fun k => frozen_of_row w b k _ _ h⟩
theorem cells3 {w : World} {b : Nat} {t : TypeId} {v0 v1 v2 : Value} (h : w.heap[b]? = some (.cells #[v0, v1, v2] t (0, 0))) : w.cell? ⟨b, 0, none⟩ = some v0 ∧ w.cell? ⟨b, 1, none⟩ = some v1 ∧ w.cell? ⟨b, 2, none⟩ = some v2 ∧ ∀ k, w.frozen? ⟨b, k, none⟩ = false :=
  ⟨cell_of_row w b 0 _ _ _ h, cell_of_row w b 1 _ _ _ h, cell_of_row w b 2 _ _ _ h, fun k => frozen_of_row w b k _ _ h⟩

theorem Stage.keep {w w' : World} {Q S : Nat → Prop} {B C b : Nat} {W : WldV} (h : Stage w Q B C b W) (hk : Keeps S w w') (hS : ∀ k, S k → B ≤ k ∧ k < C ∧ k ≠ b ∧ W.nv.ownBlock ≠ some k ∧ W.ov.ownBlock ≠ some k) : Stage w' Q B C b W :=
  { blk := (hk.block b (Nat.lt_of_lt_of_le h.bC h.Clt) fun hs => (hS b hs).2.2.1 rfl).trans h.blk,
    nodes := own_keep h.nodes fun g hg => hk.block g (own_lt h.nodes hg) fun hs => (hS g hs).2.2.2.1 hg, net := own_keep h.net fun g hg => hk.block g (own_lt h.net hg) fun hs => (hS g hs).2.2.2.2 hg,
    each := fun x hx => (h.each x hx).into hk (fun k _ hs => .inr ⟨(hS k hs).1, (hS k hs).2.1⟩) fun _ _ h => h, items := fun m hm => Sl.into (h.items m hm) hk (fun k _ hs => .inr ⟨(hS k hs).1, (hS k hs).2.1⟩) fun _ _ h => h,
    bB := h.bB, bC := h.bC, nB := h.nB, oB := h.oB, Clt := Nat.le_trans h.Clt hk.size, Bl := h.Bl }

/-- A row of nodes, one of them set. -/
theorem own_setRow {α : Type} {w : World} {e s : Nat} {v : Value} {l : List α} {f : α → List Value} (hf : ∀ x, (f x).length = s) (h : w.ownsRow 0 e s v l.length (l.flatMap f)) {g i : Nat} (hg : v.ownBlock = some g) (hi : i < l.length) (x : α) :
    (w.setCells g (i * s) (f x)).ownsRow 0 e s v (l.set i x).length ((l.set i x).flatMap f) ∧ Keeps (fun k => k = g) w (w.setCells g (i * s) (f x)) := by
  rcases h.2 with ⟨rfl, h0⟩ | ⟨g', cap, cur, rfl, _, hb, h1, h2, h3, h4⟩
  · simp [Value.ownBlock] at hg
  · simp [Value.ownBlock] at hg
    subst hg
    have hle : i * s + s ≤ l.length * s := by
      have := Nat.mul_le_mul_right s (show i + 1 ≤ l.length from hi)
      rw [Nat.add_mul] at this; omega
    have hcap : l.length * s ≤ cap * s := Nat.mul_le_mul_right s h1
    obtain ⟨r1, r2⟩ := setCells_row g' e (f x) w (i * s) cur hb (by rw [hf]; omega)
    refine ⟨⟨flat_length f s hf _, .inr ⟨g', cap, _, by rw [List.length_set], Nat.zero_le _, r1, by rw [List.length_set]; exact h1, h2, ?_, ?_⟩⟩, r2⟩
    · simp only [List.size_toArray, List.length_append, List.length_take, List.length_drop, hf, Array.length_toList]
      omega
    · rw [List.length_set]
      have e1 : l.set i x = l.take i ++ x :: l.drop (i + 1) := List.set_eq_take_append_cons_drop.trans (if_pos hi)
      rw [e1, List.flatMap_append, List.flatMap_cons, hf, ← flat_take f s hf l i (by omega), ← flat_drop f s hf l (i + 1) hi, ← h4, List.take_take, Nat.min_eq_left (by omega), Nat.add_mul, Nat.one_mul, ← List.append_assoc]
      rw [List.take_append, List.take_of_length_le (by simp [hf]; omega)]
      congr 1
      rw [List.drop_take]
      congr 1
      simp [hf]
      omega

theorem Stage.setNode {w : World} {Q : Nat → Prop} {B C b : Nat} {W : WldV} (h : Stage w Q B C b W) {g i : Nat} (hg : W.nv.ownBlock = some g) (hi : i < W.nodes.length) {x : NodV} (hx : NodeOk w (Apart Q B C) x) :
    Stage (w.setCells g (i * 11) (nodCells x)) Q B C b { W with nodes := W.nodes.set i x } ∧ Keeps (fun k => k = g) w (w.setCells g (i * 11) (nodCells x)) := by
  obtain ⟨r1, r2⟩ := own_setRow (f := nodCells) (s := 11) (fun _ => rfl) h.nodes hg hi x
  have hgb := h.nB g hg
  have into : ∀ y, NodeOk w (Apart Q B C) y → NodeOk (w.setCells g (i * 11) (nodCells x)) (Apart Q B C) y := fun y hy => hy.into r2 (fun k _ e => .inr (by omega)) fun _ _ h => h
  refine ⟨{ blk := (r2.block b (Nat.lt_of_lt_of_le h.bC h.Clt) fun e => own_ne_blk h.nodes h.blk (by decide) hg e.symm).trans h.blk, nodes := r1, net := own_keep h.net fun k hk => r2.block k (own_lt h.net hk) fun e => own_ne h.nodes h.net (by decide) hg (e ▸ hk), each := fun y hy => ?_, items := fun m hm => Sl.into (h.items m hm) r2 (fun k _ e => .inr (by omega)) fun _ _ h => h, bB := h.bB, bC := h.bC, nB := h.nB, oB := h.oB, Clt := Nat.le_trans h.Clt r2.size, Bl := h.Bl }, r2⟩
  rcases List.mem_or_eq_of_mem_set hy with hy | rfl
  · exact into y (h.each y hy)
  · exact into _ hx
end Go.Proofs.Ytibjbpakbfodaaa
namespace Go.Proofs.Ytibjbpakbfodaaa
open Go.RowKit

theorem three_boxes (w : World) (o1 o2 o3 : Obj) : ∃ wa wb wc, w.alloc o1 = wa ∧ wa.alloc o2 = wb ∧ wb.alloc o3 = wc ∧ wa.heap.size = w.heap.size + 1 ∧ wb.heap.size = w.heap.size + 2 ∧ wc.heap.size = w.heap.size + 3 ∧ Keeps Free w wc ∧
    wc.heap[w.heap.size]? = some o1 ∧ wc.heap[w.heap.size + 1]? = some o2 ∧ wc.heap[w.heap.size + 2]? = some o3 := by
  refine ⟨_, _, _, rfl, rfl, rfl, by simp, by simp, by simp, (((Keeps.refl Free w).alloc o1).alloc o2).alloc o3, ?_, ?_, ?_⟩
  · exact ((Keeps.refl Free _).alloc o3).blk (two_boxes w o1 o2).2.1
  · exact ((Keeps.refl Free _).alloc o3).blk (two_boxes w o1 o2).2.2
  · have := heap_alloc_new ((w.alloc o1).alloc o2) o3
    simpa using this

theorem cloned_rows {w wz w1 w2 : World} {B : Nat} {v0 v1 e0 e1 e2 : Value} {A1 A2 : Option Addr} {n1 n2 C1 C2 : Nat} {xs ys : List Value} (hB : w.heap.size = B) (hs : wz.heap.size = B + 3) (hk : Keeps Free w wz)
    (b1 : wz.heap[B]? = some (.cells #[v0, v1] 55 (0, 0))) (b2 : wz.heap[B + 1]? = some (.cells #[e0, e1, e2] 63 (0, 0))) (b3 : wz.heap[B + 2]? = some (.cells #[.slice none 0 0, .slice none 0 0] 55 (0, 0)))
    (o1 : w1.ownsRow 0 25 11 (.slice A1 n1 C1) n1 xs) (g1 : ∀ g, (Value.slice A1 n1 C1).ownBlock = some g → wz.drew.heap.size ≤ g) (kk1 : Keeps (fun _ => False) wz.drew w1)
    (o2 : w2.ownsRow 0 38 9 (.slice A2 n2 C2) n2 ys) (g2 : ∀ g, (Value.slice A2 n2 C2).ownBlock = some g → w1.heap.size ≤ g) (kk2 : Keeps (fun _ => False) w1 w2) :
    ∃ W, (w2.setCell ⟨B, 0, none⟩ (.slice A1 n1 C1)).setCell ⟨B, 1, none⟩ (.slice A2 n2 C2) = W ∧ W.ownsRow 0 25 11 (.slice A1 n1 C1) n1 xs ∧ W.ownsRow 0 38 9 (.slice A2 n2 C2) n2 ys ∧
      (∀ g, (Value.slice A1 n1 C1).ownBlock = some g → B + 3 ≤ g) ∧ (∀ g, (Value.slice A2 n2 C2).ownBlock = some g → B + 3 ≤ g) ∧
      Keeps Free w W ∧ B + 3 ≤ W.heap.size ∧ W.heap[B]? = some (.cells #[.slice A1 n1 C1, .slice A2 n2 C2] 55 (0, 0)) ∧ W.heap[B + 1]? = some (.cells #[e0, e1, e2] 63 (0, 0)) ∧ W.heap[B + 2]? = some (.cells #[.slice none 0 0, .slice none 0 0] 55 (0, 0)) := by
  have hd : wz.drew.heap.size = wz.heap.size := rfl
  have hs1 : B + 3 ≤ w1.heap.size := by have := kk1.size; omega
  have g1' : ∀ g, (Value.slice A1 n1 C1).ownBlock = some g → B + 3 ≤ g := fun g hg => by have := g1 g hg; omega
  have g2' : ∀ g, (Value.slice A2 n2 C2).ownBlock = some g → B + 3 ≤ g := fun g hg => by have h1 := g2 g hg; omega
  have hke : Keeps (fun j => j = B) w2 ((w2.setCell ⟨B, 0, none⟩ (.slice A1 n1 C1)).setCell ⟨B, 1, none⟩ (.slice A2 n2 C2)) :=
    Keeps.setCell (p := ⟨B, 1, none⟩) (Keeps.setCell (p := ⟨B, 0, none⟩) (Keeps.refl (fun j => j = B) w2) (.inl rfl) (.slice A1 n1 C1)) (.inl rfl) (.slice A2 n2 C2)
  have hkw := kk2.size
  refine ⟨_, rfl, own_set (own_set (own_later o1 kk2) _ (fun e => by have := g1' _ e; omega)) _ (fun e => by have := g1' _ e; omega),
    own_set (own_set o2 _ (fun e => by have := g2' _ e; omega)) _ (fun e => by have := g2' _ e; omega), g1', g2', ?_, ?_, ?_, ?_, ?_⟩
  · exact ((hk.drew.trans kk1 (fun _ h => .inl h)).trans kk2 (fun _ h => .inl h)).trans hke fun j e => .inr (by omega)
  · have := hke.size; omega
  · rw [setCell_blk (setCell_blk (kk2.blk (kk1.blk b1)))]
    rfl
  · exact (hke.block (B + 1) (by omega) (by omega)).trans (kk2.blk (kk1.blk b2))
  · exact (hke.block (B + 2) (by omega) (by omega)).trans (kk2.blk (kk1.blk b3))

/-- Between an event and its end: a step at work, and what is said. -/
def Mid (w : World) (Q : Nat → Prop) (B : Nat) (W : WldV) (ev : Evt) (o : Value) (wx : World) : Prop :=
  ∃ C W' out, Stage wx Q B C B W' ∧ MsgsOk wx (Apart Q B C) o out ∧ wx.heap[B + 2]? = some (.cells #[.slice none 0 0, .slice none 0 0] 55 (0, 0)) ∧ B + 2 < C ∧ Keeps Free w wx ∧ W'.nodes.length ≤ 1000 ∧ W'.net.length ≤ 1000 ∧ out.length ≤ 1000 ∧
    (∀ g, W'.nv.ownBlock = some g → B + 3 ≤ g) ∧ (∀ g, W'.ov.ownBlock = some g → B + 3 ≤ g) ∧ cstep W.w ev = ⟨W'.nodes.map NodV.n, trim (said W'.net ++ said out)⟩

theorem stage_new {w wx : World} {Q : Nat → Prop} {B C : Nat} {W : WldV} {nv ov : Value} (h : WldOk w Q W) (hQ : ∀ k, Q k → k < B) (hB : w.heap.size = B) (hk : Keeps Free w wx) (hC : C ≤ wx.heap.size) (hBC : B < C)
    (hb : wx.heap[B]? = some (.cells #[nv, ov] 55 (0, 0))) (o1 : wx.ownsRow 0 25 11 nv W.nodes.length (W.nodes.flatMap nodCells)) (o2 : wx.ownsRow 0 38 9 ov W.net.length (W.net.flatMap mesCells))
    (g1 : ∀ g, nv.ownBlock = some g → B ≤ g ∧ g < C) (g2 : ∀ g, ov.ownBlock = some g → B ≤ g ∧ g < C) : Stage wx Q B C B { W with nv := nv, ov := ov } := by
  have hS : ∀ k, k < w.heap.size → Apart Q B C k → Q k := fun k hk h => h.elim id fun h => by omega
  exact { blk := hb, nodes := o1, net := o2, each := fun x hx => (h.each x hx).into hk (fun _ _ h => h.elim) hS, items := fun m hm => Sl.into (h.msgs.each m hm) hk (fun _ _ h => h.elim) hS, bB := Nat.le_refl _, bC := hBC, nB := g1, oB := g2, Clt := hC, Bl := hQ }

theorem own_at {α : Type} {w : World} {e s : Nat} {A : Option Addr} {c : Nat} {l : List α} {f : α → List Value} (hf : ∀ x, (f x).length = s) (h : w.ownsRow 0 e s (.slice A l.length c) l.length (l.flatMap f)) {i : Nat} (hi : i < l.length) :
    ∃ g, A = some ⟨g, 0, none⟩ ∧ (∀ j u, j < s → (f l[i])[j]? = some u → w.cell? ⟨g, i * s + j, none⟩ = some u) ∧ ∀ k, w.frozen? ⟨g, k, none⟩ = false := by
  obtain ⟨g, rfl, hc, hf'⟩ := own_cell h (by omega)
  refine ⟨g, rfl, fun j u hj hu => ?_, hf'⟩
  have hle : i * s + s ≤ l.length * s := by
    have := Nat.mul_le_mul_right s (show i + 1 ≤ l.length from hi)
    rw [Nat.add_mul] at this; omega
  rw [hc _ (by omega), flat_get f s hf l i l[i] j (List.getElem?_eq_getElem hi) hj]
  exact hu

theorem put2 {w : World} {r t : Nat} {cs : Array Value} {v0 v1 : Value} (h : w.heap[r]? = some (.cells cs t (0, 0))) (hs : cs.size = 2) :
    ∃ w', (w.setCell ⟨r, 0, none⟩ v0).setCell ⟨r, 1, none⟩ v1 = w' ∧ w'.heap[r]? = some (.cells #[v0, v1] t (0, 0)) ∧ Keeps (fun k => k = r) w w' := by
  obtain ⟨h1, h2⟩ := sets_blk r t [v0, v1] w 0 cs h (by simp [hs])
  exact ⟨_, rfl, h1, h2⟩

theorem spot_cases (len : Nat) (nd : Int) : (spot len nd < 0 ∧ (nd < 1 ∨ (len : Int) < nd)) ∨ ∃ i : Nat, i < len ∧ spot len nd = i ∧ ¬ (nd < 1 ∨ (len : Int) < nd) ∧ (nd - 1).toNat = i := by
  unfold spot
  by_cases h : nd < 1 ∨ (len : Int) < nd
  · exact .inl ⟨by rw [if_pos h]; decide, h⟩
  · exact .inr ⟨(nd - 1).toNat, by omega, by rw [if_neg h]; omega, h, rfl⟩

/-- The world that a step hands back. -/
theorem Stage.done {w wx wf : World} {Q : Nat → Prop} {B C : Nat} {W' : WldV} (h : Stage wx Q B C B W') (hB : w.heap.size = B) (hk : Keeps Free w wx) (hC : B + 2 < C) (hf : Keeps (fun k => k = B + 2) wx wf) (ho : W'.ov.ownBlock ≠ some (B + 2)) (hn : W'.nv.ownBlock ≠ some (B + 2)) : WldOk wf Q W' ∧ Keeps Free w wf :=
  ⟨(h.keep hf fun k e => by subst e; exact ⟨by omega, hC, by omega, hn, ho⟩).ok, hk.trans hf fun k e => .inr (by omega)⟩

theorem others_len5 {x : Nod} (h : x.n ≤ 5) : (others x).length ≤ 5 := by
  unfold others
  refine Nat.le_trans (List.length_filter_le _ _) ?_
  rw [List.length_map, List.length_range]
  omega
theorem putSays_len5 {x : Nod} (c : Int) (h : x.n ≤ 5) : (putSays x c).length ≤ 5 := by
  unfold putSays
  rw [List.length_map]
  exact others_len5 (by rw [(put_fields x c).2.1]; exact h)
theorem leadSays_len5 {x : Nod} (h : x.n ≤ 5) : (leadSays x).length ≤ 5 := by
  unfold leadSays
  split
  · exact putSays_len5 0 h
  · simp
theorem acted_len (x : Nod) (e : Evt) : (acted x e).2.length ≤ 20 := by
  have hg : ∀ {p : Prop}, ¬ (wrong x ≠ 0 ∨ p) → x.n ≤ 5 := fun hc => (good_of_wrong (by omega)).n5
  unfold acted
  split
  · unfold timeout
    split
    · simp
    · rename_i hc
      have h5 := hg hc
      have h1 := others_len5 (x := stood x) h5
      have h2 := leadSays_len5 (x := stood x) h5
      simp only [List.length_append, List.length_map]
      omega
  split
  · unfold beat
    split
    · simp
    · rename_i hc
      have h1 := others_len5 (hg hc)
      simp only [List.length_map]
      omega
  split
  · unfold propose
    split
    · simp
    · rename_i hc
      exact Nat.le_trans (putSays_len5 _ (hg hc)) (by omega)
  · simp
theorem receive_len (x : Nod) (m : Mes) : (receive x m).2.length ≤ 20 := by
  unfold receive
  split
  · simp
  rename_i hc
  have h5 : x.n ≤ 5 := (good_of_wrong (by omega)).n5
  have hy : (if x.term < m.term then follow x m.term 0 else x).n ≤ 5 := by split <;> exact h5
  generalize (if x.term < m.term then follow x m.term 0 else x) = y at hy
  simp only
  split
  · simp [asked]
  split
  · unfold voted
    split
    · simp
    · exact Nat.le_trans (leadSays_len5 hy) (by omega)
  split
  · unfold appended
    split
    · simp
    · simp only
      split <;> simp
  · unfold told
    split
    · simp
    split
    · simp only
      split <;> simp
    · simp

/-- A store of a whole node at a place of a row. -/
theorem row11 (w : World) (g a : Nat) (v0 v1 v2 v3 v4 v5 v6 v7 v8 v9 v10 : Value) :
    ∃ w', ((((((((((w.setCell ⟨g, a, none⟩ v0).setCell ⟨g, a + 1, none⟩ v1).setCell ⟨g, a + 2, none⟩ v2).setCell ⟨g, a + 3, none⟩ v3).setCell ⟨g, a + 4, none⟩ v4).setCell ⟨g, a + 5, none⟩ v5).setCell ⟨g, a + 6, none⟩ v6).setCell ⟨g, a + 7, none⟩ v7).setCell ⟨g, a + 8, none⟩ v8).setCell ⟨g, a + 9, none⟩ v9).setCell ⟨g, a + 10, none⟩ v10 = w' ∧ w' = w.setCells g a [v0, v1, v2, v3, v4, v5, v6, v7, v8, v9, v10] := ⟨_, rfl, rfl⟩

theorem acted_mid {w wo w5 w6 w7 : World} {Q : Nat → Prop} {B C1 C2 g1 i : Nat} {A2 : Option Addr} {nodes : List NodV} {net : List MesV} {nv ov o : Value} {ev : Evt} {x' : NodV} {out : List MesV} (h0 : WldOk w Q ⟨nodes, net, nv, ov⟩) (hQ : ∀ k, Q k → k < B) (hB : w.heap.size = B)
    (hn : nodes.length ≤ 1000) (hm : net.length ≤ 1000) (q1 : wo.ownsRow 0 25 11 (.slice (some ⟨g1, 0, none⟩) nodes.length C1) nodes.length (nodes.flatMap nodCells)) (q2 : wo.ownsRow 0 38 9 (.slice A2 net.length C2) net.length (net.flatMap mesCells))
    (q3 : ∀ g, (Value.slice (some ⟨g1, 0, none⟩) nodes.length C1).ownBlock = some g → B + 3 ≤ g) (q4 : ∀ g, (Value.slice A2 net.length C2).ownBlock = some g → B + 3 ≤ g) (q5 : Keeps Free w wo) (q6 : B + 3 ≤ wo.heap.size)
    (q7 : wo.heap[B]? = some (.cells #[.slice (some ⟨g1, 0, none⟩) nodes.length C1, .slice A2 net.length C2] 55 (0, 0))) (q9 : wo.heap[B + 2]? = some (.cells #[.slice none 0 0, .slice none 0 0] 55 (0, 0)))
    {b7 : Nat} (hb7 : wo.heap.size = b7) (k5 : Keeps Free wo w5) (k6 : Keeps Free w5 w6) (hs5 : w5.heap.size = b7 + 1) (hx : NodeOk w6 (Apart Q B w5.heap.size) x') (hmo : MsgsOk w6 (Apart Q B w5.heap.size) o out) (k7 : Keeps (fun k => k = b7) w6 w7)
    (hi : i < nodes.length) (hlen : out.length ≤ 1000) (hc : cstep ⟨nodes.map NodV.n, said net⟩ ev = ⟨(nodes.map NodV.n).set i x'.n, trim (said net ++ said out)⟩) :
    Mid w Q B ⟨nodes, net, nv, ov⟩ ev o (w7.setCells g1 (i * 11) (nodCells x')) := by
  have hk5 : Keeps Free w w5 := q5.trans k5 fun _ h => .inl h
  have hs5' : B + 3 ≤ w5.heap.size := by omega
  have hlt1 := fun g (hg : (Value.slice (some ⟨g1, 0, none⟩) nodes.length C1).ownBlock = some g) => own_lt q1 hg
  have hlt2 := fun g (hg : (Value.slice A2 net.length C2).ownBlock = some g) => own_lt q2 hg
  have st5 : Stage w5 Q B w5.heap.size B ⟨nodes, net, _, _⟩ := stage_new h0 hQ hB hk5 (Nat.le_refl _) (by omega) (k5.blk q7) (own_later q1 k5) (own_later q2 k5) (fun g hg => ⟨by have := q3 g hg; omega, by have := hlt1 g hg; omega⟩) (fun g hg => ⟨by have := q4 g hg; omega, by have := hlt2 g hg; omega⟩)
  have st7 := (st5.later k6).keep k7 fun k e => by
    subst e
    exact ⟨by omega, by omega, by omega, fun e => by have := hlt1 _ e; omega, fun e => by have := hlt2 _ e; omega⟩
  have hap : ∀ k, k = b7 → Apart Q B w5.heap.size k := fun k e => .inr (by omega)
  have hx7 : NodeOk w7 (Apart Q B w5.heap.size) x' := hx.into k7 (fun k _ e => hap k e) fun _ _ h => h
  obtain ⟨st8, k8⟩ := st7.setNode (g := g1) (i := i) rfl hi hx7
  have hg1 := q3 g1 rfl
  have hg1' := hlt1 g1 rfl
  refine ⟨_, _, out, st8, (hmo.into k7 (fun k _ e => hap k e) fun _ _ h => h).into k8 (fun k _ e => .inr (by omega)) fun _ _ h => h, ?_, by omega, ?_, by simpa using hn, hm, hlen, q3, q4, ?_⟩
  · have h1 : w7.heap[B + 2]? = some (.cells #[.slice none 0 0, .slice none 0 0] 55 (0, 0)) := (k7.block (B + 2) (by have := k6.size; omega) (by omega)).trans (k6.blk (k5.blk q9))
    exact (k8.block (B + 2) (laid_lt h1) (by omega)).trans h1
  · exact ((hk5.trans k6 fun _ h => .inl h).trans k7 fun k e => .inr (by omega)).trans k8 fun k e => .inr (by omega)
  · rw [show WldV.w ⟨nodes, net, nv, ov⟩ = ⟨nodes.map NodV.n, said net⟩ from rfl, hc]
    simp [List.map_set]

theorem acted_cstep {nodes : List NodV} {net : List MesV} {ev : Evt} {i : Nat} {x : NodV} (hk : ev.kind = 1 ∨ ev.kind = 2 ∨ ev.kind = 3 ∨ ev.kind = 7) (hin : ¬ (ev.node < 1 ∨ (nodes.length : Int) < ev.node)) (hie : (ev.node - 1).toNat = i) (hi : i < nodes.length) (hx : nodes[i] = x) :
    cstep ⟨nodes.map NodV.n, said net⟩ ev = ⟨(nodes.map NodV.n).set i (acted x.n ev).1, trim (said net ++ (acted x.n ev).2)⟩ := by
  unfold cstep
  rw [if_pos hk]
  have hs : spotOf ⟨nodes.map NodV.n, said net⟩ ev.node = some i := by
    unfold spotOf
    rw [if_neg (by simpa using hin), hie]
  have hg : (nodes.map NodV.n)[i]? = some x.n := by rw [List.getElem?_map, List.getElem?_eq_getElem hi, hx]; rfl
  simp only [hs, hg]

theorem idle_end {w wo wf : World} {Q : Nat → Prop} {B C1 C2 : Nat} {A1 A2 : Option Addr} {nodes : List NodV} {net : List MesV} {nv ov : Value} (h0 : WldOk w Q ⟨nodes, net, nv, ov⟩) (hQ : ∀ k, Q k → k < B) (hB : w.heap.size = B)
    (q1 : wo.ownsRow 0 25 11 (.slice A1 nodes.length C1) nodes.length (nodes.flatMap nodCells)) (q2 : wo.ownsRow 0 38 9 (.slice A2 net.length C2) net.length (net.flatMap mesCells))
    (q3 : ∀ g, (Value.slice A1 nodes.length C1).ownBlock = some g → B + 3 ≤ g) (q4 : ∀ g, (Value.slice A2 net.length C2).ownBlock = some g → B + 3 ≤ g) (q5 : Keeps Free w wo) (q6 : B + 3 ≤ wo.heap.size)
    (q7 : wo.heap[B]? = some (.cells #[.slice A1 nodes.length C1, .slice A2 net.length C2] 55 (0, 0))) (hf : Keeps (fun k => k = B + 2) wo wf) : WldOk wf Q ⟨nodes, net, .slice A1 nodes.length C1, .slice A2 net.length C2⟩ ∧ Keeps Free w wf := by
  have st : Stage wo Q B wo.heap.size B ⟨nodes, net, .slice A1 nodes.length C1, .slice A2 net.length C2⟩ := stage_new h0 hQ hB q5 (Nat.le_refl _) (by omega) q7 q1 q2 (fun g hg => ⟨by have := q3 g hg; omega, own_lt q1 hg⟩) fun g hg => ⟨by have := q4 g hg; omega, own_lt q2 hg⟩
  exact st.done hB q5 (by omega) hf (fun e => by have := q4 _ e; omega) fun e => by have := q3 _ e; omega

theorem cstep_out {nodes : List NodV} {net : List MesV} {nv ov : Value} {ev : Evt} (hk : ev.kind = 1 ∨ ev.kind = 2 ∨ ev.kind = 3 ∨ ev.kind = 7) (hout : ev.node < 1 ∨ (nodes.length : Int) < ev.node) : cstep (WldV.w ⟨nodes, net, nv, ov⟩) ev = WldV.w ⟨nodes, net, nv, ov⟩ := by
  unfold cstep
  rw [if_pos hk]
  have hs : spotOf (WldV.w ⟨nodes, net, nv, ov⟩) ev.node = none := by
    unfold spotOf WldV.w
    rw [if_pos (by simpa using hout)]
  simp only [hs]

theorem own_free {w w' : World} {e s n c g b : Nat} {xs : List Value} (h : w.ownsRow 0 e s (.slice (some ⟨g, 0, none⟩) n c) n xs) (hn : 0 < n) (hk : Keeps (fun k => k = b) w w') (hne : g ≠ b) (j : Nat) : w'.frozen? ⟨g, j, none⟩ = false := by
  have h' := own_keep h fun k hk' => hk.block k (own_lt h hk') fun e => by simp [Value.ownBlock] at hk'; omega
  obtain ⟨g', e, _, hf⟩ := own_cell h' hn
  injection e with e
  injection e with e
  subst e
  exact hf j

theorem recv_stage {w wq : World} {Q : Nat → Prop} {B : Nat} {nodes : List NodV} {net net1 : List MesV} {nv ov nv1 ov1 : Value} (h0 : WldOk w Q ⟨nodes, net, nv, ov⟩) (hQ : ∀ k, Q k → k < B) (hB : w.heap.size = B) (hk : Keeps Free w wq) (hs : B + 3 ≤ wq.heap.size)
    (hb : wq.heap[B]? = some (.cells #[nv1, ov1] 55 (0, 0))) (o1 : wq.ownsRow 0 25 11 nv1 nodes.length (nodes.flatMap nodCells)) (o2 : wq.ownsRow 0 38 9 ov1 net1.length (net1.flatMap mesCells))
    (g1 : ∀ g, nv1.ownBlock = some g → B ≤ g) (g2 : ∀ g, ov1.ownBlock = some g → B ≤ g) (hsub : ∀ m ∈ net1, m ∈ net) : Stage wq Q B wq.heap.size B ⟨nodes, net1, nv1, ov1⟩ := by
  have hS : ∀ k, k < w.heap.size → Apart Q B wq.heap.size k → Q k := fun k hk h => h.elim id fun h => by omega
  exact { blk := hb, nodes := o1, net := o2, each := fun x hx => (h0.each x hx).into hk (fun _ _ h => h.elim) hS, items := fun m hm => Sl.into (h0.msgs.each m (hsub m hm)) hk (fun _ _ h => h.elim) hS,
          bB := Nat.le_refl _, bC := by omega, nB := fun g hg => ⟨g1 g hg, own_lt o1 hg⟩, oB := fun g hg => ⟨g2 g hg, own_lt o2 hg⟩, Clt := Nat.le_refl _, Bl := hQ }

theorem recv_mid {w wq w6 : World} {Q : Nat → Prop} {B C1 g1 i : Nat} {nodes : List NodV} {net net1 : List MesV} {nv ov ov1 o : Value} {ev : Evt} {x' : NodV} {out : List MesV} (st : Stage wq Q B wq.heap.size B ⟨nodes, net1, .slice (some ⟨g1, 0, none⟩) nodes.length C1, ov1⟩) (hB : w.heap.size = B)
    (hk : Keeps Free w wq) (hs : B + 3 ≤ wq.heap.size) (q9 : wq.heap[B + 2]? = some (.cells #[.slice none 0 0, .slice none 0 0] 55 (0, 0))) (hg1 : B + 3 ≤ g1) (k6 : Keeps Free wq w6) (hx : NodeOk w6 (Apart Q B wq.heap.size) x') (hmo : MsgsOk w6 (Apart Q B wq.heap.size) o out)
    (hn : nodes.length ≤ 1000) (hm : net1.length ≤ 1000) (hi : i < nodes.length) (hlen : out.length ≤ 1000) (ho3 : ∀ g, ov1.ownBlock = some g → B + 3 ≤ g) (hc : cstep ⟨nodes.map NodV.n, said net⟩ ev = ⟨(nodes.map NodV.n).set i x'.n, trim (said net1 ++ said out)⟩) :
    Mid w Q B ⟨nodes, net, nv, ov⟩ ev o (w6.setCells g1 (i * 11) (nodCells x')) := by
  obtain ⟨st8, k8⟩ := (st.later k6).setNode (g := g1) (i := i) rfl hi hx
  have hg1' := (st.nB g1 rfl).2
  refine ⟨_, _, out, st8, hmo.into k8 (fun k _ e => .inr (by omega)) fun _ _ h => h, ?_, by omega, ?_, by simpa using hn, hm, hlen, fun g hg => (by simp [Value.ownBlock] at hg; omega), ho3, ?_⟩
  · have h1 : w6.heap[B + 2]? = some (.cells #[.slice none 0 0, .slice none 0 0] 55 (0, 0)) := k6.blk q9
    exact (k8.block (B + 2) (laid_lt h1) (by omega)).trans h1
  · exact (hk.trans k6 fun _ h => .inl h).trans k8 fun k e => .inr (by omega)
  · rw [show WldV.w ⟨nodes, net, nv, ov⟩ = ⟨nodes.map NodV.n, said net⟩ from rfl, hc]
    simp [List.map_set]

theorem still_mid {w wq : World} {Q : Nat → Prop} {B : Nat} {nodes : List NodV} {net net1 : List MesV} {nv ov nv1 ov1 : Value} {ev : Evt} (st : Stage wq Q B wq.heap.size B ⟨nodes, net1, nv1, ov1⟩)
    (hk : Keeps Free w wq) (hs : B + 3 ≤ wq.heap.size) (q9 : wq.heap[B + 2]? = some (.cells #[.slice none 0 0, .slice none 0 0] 55 (0, 0)))
    (hn : nodes.length ≤ 1000) (hm : net1.length ≤ 1000) (hn3 : ∀ g, nv1.ownBlock = some g → B + 3 ≤ g) (ho3 : ∀ g, ov1.ownBlock = some g → B + 3 ≤ g) (hc : cstep ⟨nodes.map NodV.n, said net⟩ ev = ⟨nodes.map NodV.n, trim (said net1)⟩) : Mid w Q B ⟨nodes, net, nv, ov⟩ ev (.slice none 0 0) wq :=
  ⟨_, _, [], st, noMsgs _ _, q9, by omega, hk, hn, hm, by simp, hn3, ho3, by rw [show WldV.w ⟨nodes, net, nv, ov⟩ = ⟨nodes.map NodV.n, said net⟩ from rfl, hc]; simp [said]⟩

theorem cstep_nopick {nodes : List NodV} {net : List MesV} {nv ov : Value} {ev : Evt} (hk : ev.kind = 4 ∨ ev.kind = 5 ∨ ev.kind = 6) (hp : ev.pick < 0 ∨ (net.length : Int) ≤ ev.pick) : cstep (WldV.w ⟨nodes, net, nv, ov⟩) ev = WldV.w ⟨nodes, net, nv, ov⟩ := by
  unfold cstep
  rw [if_neg (by omega), if_pos hk, if_pos (by simpa [WldV.w, said] using hp)]

theorem cstep_other {nodes : List NodV} {net : List MesV} {ev : Evt} (hk : ¬ (ev.kind = 1 ∨ ev.kind = 2 ∨ ev.kind = 3 ∨ ev.kind = 7)) (hk' : ¬ (ev.kind = 4 ∨ ev.kind = 5 ∨ ev.kind = 6)) : cstep ⟨nodes.map NodV.n, said net⟩ ev = ⟨nodes.map NodV.n, trim (said net)⟩ := by
  unfold cstep
  rw [if_neg hk, if_neg hk']

/-- What is left of the messages when one has been taken. -/
def netOf (net : List MesV) (k : Int) (j : Nat) : List MesV := if k = 5 then net else net.take j ++ net.drop (j + 1)

theorem netOf_sub {net : List MesV} {k : Int} {j : Nat} : ∀ m ∈ netOf net k j, m ∈ net := by
  intro m hm
  unfold netOf at hm
  split at hm
  · exact hm
  · rcases List.mem_append.1 hm with h | h
    · exact List.mem_of_mem_take h
    · exact List.mem_of_mem_drop h
theorem netOf_len {net : List MesV} {k : Int} {j : Nat} : (netOf net k j).length ≤ net.length := by
  unfold netOf
  split
  · exact Nat.le_refl _
  · rw [List.length_append, List.length_take, List.length_drop]; omega

theorem said_netOf (net : List MesV) (k : Int) (j : Nat) : said (netOf net k j) = if k = 5 then said net else (said net).eraseIdx j := by
  unfold netOf said
  split
  · rfl
  · rw [List.eraseIdx_eq_take_drop_succ, List.map_append, List.map_take, List.map_drop]

theorem cstep_recv {nodes : List NodV} {net : List MesV} {ev : Evt} {i j : Nat} {x : NodV} {m : MesV} (hk : ev.kind = 4 ∨ ev.kind = 5) (hj : ev.pick = j) (hjl : j < net.length) (hm : net[j] = m) (hin : ¬ (m.m.dst < 1 ∨ (nodes.length : Int) < m.m.dst)) (hie : (m.m.dst - 1).toNat = i) (hi : i < nodes.length) (hx : nodes[i] = x) :
    cstep ⟨nodes.map NodV.n, said net⟩ ev = ⟨(nodes.map NodV.n).set i (receive x.n m.m).1, trim (said (netOf net ev.kind j) ++ (receive x.n m.m).2)⟩ := by
  unfold cstep
  rw [if_neg (by omega), if_pos (by omega), if_neg (by simp [said]; omega)]
  have hs : spotOf ⟨nodes.map NodV.n, said net⟩ m.m.dst = some i := by
    unfold spotOf
    rw [if_neg (by simpa using hin), hie]
  have hgm : (said net)[ev.pick.toNat]? = some m.m := by rw [hj, Int.toNat_natCast]; unfold said; rw [List.getElem?_map, List.getElem?_eq_getElem hjl, hm]; rfl
  have hg : (nodes.map NodV.n)[i]? = some x.n := by rw [List.getElem?_map, List.getElem?_eq_getElem hi, hx]; rfl
  simp only [hgm, hs, hg, if_neg (show ¬ ev.kind = 6 by omega)]
  rw [said_netOf, hj, Int.toNat_natCast]

theorem cstep_lost {nodes : List NodV} {net : List MesV} {ev : Evt} {j : Nat} {m : MesV} (hk : ev.kind = 4 ∨ ev.kind = 5 ∨ ev.kind = 6) (hj : ev.pick = j) (hjl : j < net.length) (hm : net[j] = m) (hout : ev.kind = 6 ∨ m.m.dst < 1 ∨ (nodes.length : Int) < m.m.dst) :
    cstep ⟨nodes.map NodV.n, said net⟩ ev = ⟨nodes.map NodV.n, trim (said (netOf net ev.kind j))⟩ := by
  unfold cstep
  rw [if_neg (by omega), if_pos (by omega), if_neg (by simp [said]; omega)]
  have hs : (if ev.kind = 6 then none else spotOf ⟨nodes.map NodV.n, said net⟩ m.m.dst) = none := by
    split
    · rfl
    · unfold spotOf
      rw [if_pos (by simp; omega)]
  have hgm : (said net)[ev.pick.toNat]? = some m.m := by rw [hj, Int.toNat_natCast]; unfold said; rw [List.getElem?_map, List.getElem?_eq_getElem hjl, hm]; rfl
  simp only [hgm, hs]
  rw [said_netOf, hj, Int.toNat_natCast]

theorem deleted {w5 w6 : World} {B g2 n1 C3 : Nat} {A3 : Option Addr} {net1 : List MesV} {xs : List Value} {nv ov : Value} (hb : w5.heap[B]? = some (.cells #[nv, ov] 55 (0, 0))) (o1 : w5.ownsRow 0 25 11 nv n1 xs) (q1 : ∀ g, nv.ownBlock = some g → B + 3 ≤ g ∧ g ≠ g2)
    (o3 : w6.ownsRow 0 38 9 (.slice A3 net1.length C3) net1.length (net1.flatMap mesCells)) (hv : (Value.slice A3 net1.length C3).ownBlock = some g2) (k6 : Keeps (fun k => k = g2) w5 w6) (h2 : B + 3 ≤ g2) :
    ∃ w7, w6.setCell ⟨B, 1, none⟩ (.slice A3 net1.length C3) = w7 ∧ w7.heap[B]? = some (.cells #[nv, .slice A3 net1.length C3] 55 (0, 0)) ∧ w7.ownsRow 0 25 11 nv n1 xs ∧
      w7.ownsRow 0 38 9 (.slice A3 net1.length C3) net1.length (net1.flatMap mesCells) ∧ Keeps (fun k => k = B ∨ k = g2) w5 w7 := by
  have hb6 := (k6.block B (laid_lt hb) (fun e => by omega)).trans hb
  refine ⟨_, rfl, ?_, ?_, own_set o3 _ (fun e => by rw [hv] at e; injection e with e; omega), ?_⟩
  · rw [setCell_blk hb6]; rfl
  · exact own_set (own_keep o1 fun g hg => k6.block g (own_lt o1 hg) fun e => (q1 g hg).2 e) _ (fun e => by have := (q1 _ e).1; omega)
  · exact (k6.mono (S' := fun k => k = B ∨ k = g2) fun k e => .inl (.inr e)).setCell (p := ⟨B, 1, none⟩) (.inl (.inl rfl)) _

/-- Nine cells. -/
theorem mes9 {w : World} {b : Nat} {t : TypeId} {v0 v1 v2 v3 v4 v5 v6 v7 v8 : Value} (h : w.heap[b]? = some (.cells #[v0, v1, v2, v3, v4, v5, v6, v7, v8] t (0, 0))) :
    w.cell? ⟨b, 0, none⟩ = some v0 ∧ w.cell? ⟨b, 1, none⟩ = some v1 ∧ w.cell? ⟨b, 2, none⟩ = some v2 ∧ w.cell? ⟨b, 3, none⟩ = some v3 ∧ w.cell? ⟨b, 4, none⟩ = some v4 ∧ w.cell? ⟨b, 5, none⟩ = some v5 ∧
      w.cell? ⟨b, 6, none⟩ = some v6 ∧ w.cell? ⟨b, 7, none⟩ = some v7 ∧ w.cell? ⟨b, 8, none⟩ = some v8 :=
  ⟨cell_of_row w b 0 _ _ _ h, cell_of_row w b 1 _ _ _ h, cell_of_row w b 2 _ _ _ h, cell_of_row w b 3 _ _ _ h, cell_of_row w b 4 _ _ _ h, cell_of_row w b 5 _ _ _ h, cell_of_row w b 6 _ _ _ h, cell_of_row w b 7 _ _ _ h, cell_of_row w b 8 _ _ _ h⟩

theorem run_none {w : World} {base : Nat} {t ty e : TypeId} {i : TypeInfo} {size : Nat} (ht : Try.prog.underlying t = some (.slice e)) (hi : Try.prog.info? e = some i) {v : Value} {n : Nat} {xs : List Value} (hown : w.ownsRow base e size v n xs) (c : Nat) :
    (Builtin.append_ #[t, t] ty #[v, .slice none 0 c]).run Try.prog w = .ok v w := by
  rcases hown.2 with ⟨rfl, rfl⟩ | ⟨g, cap, cur, rfl, _, _, hnc, _⟩
  · simp [Builtin.append_, run_underlying ht, sizeOf, typeInfo, hi, Builtin.lenOf, Builtin.firstCells]
  · simp [Builtin.append_, run_underlying ht, sizeOf, typeInfo, hi, Builtin.lenOf, Builtin.firstCells, hnc, storeCells]

/-- A step near its end: all that is written lies in blocks of S. -/
structure Tail (w : World) (Q S : Nat → Prop) (B : Nat) (W : WldV) : Prop where
  blk : w.heap[B]? = some (.cells #[W.nv, W.ov] 55 (0, 0))
  nodes : w.ownsRow 0 25 11 W.nv W.nodes.length (W.nodes.flatMap nodCells)
  net : w.ownsRow 0 38 9 W.ov W.net.length (W.net.flatMap mesCells)
  each : ∀ x ∈ W.nodes, NodeOk w S x
  items : ∀ m ∈ W.net, MesOk w S m
  QS : ∀ k, Q k → S k
  Bl : ∀ k, Q k → k < B
  low : ∀ k, S k → Q k ∨ B ≤ k
  b0 : S B
  b2 : S (B + 2)
  nS : ∀ g, W.nv.ownBlock = some g → S g ∧ B + 3 ≤ g
  oS : ∀ g, W.ov.ownBlock = some g → S g ∧ B + 3 ≤ g

theorem Tail.ok {w : World} {Q S : Nat → Prop} {B : Nat} {W : WldV} (h : Tail w Q S B W) : WldOk w Q W :=
  ⟨Sl.of_own h.nodes fun g hg hq => by have := (h.nS g hg).2; have := h.Bl g hq; omega, fun x hx => (h.each x hx).into (Keeps.refl Free w) (fun _ _ h => h.elim) fun k _ hq => h.QS k hq,
    Sl.of_own h.net fun g hg hq => by have := (h.oS g hg).2; have := h.Bl g hq; omega, fun m hm => Sl.into (h.items m hm) (Keeps.refl Free w) (fun _ _ h => h.elim) fun k _ hq => h.QS k hq⟩

set_option maxRecDepth 100000 in
/-- What is said is put behind the messages. -/
theorem Stage.said {w : World} {Q : Nat → Prop} {B C : Nat} {nodes : List NodV} {net out : List MesV} {nv ov : Value} (h : Stage w Q B C B ⟨nodes, net, nv, ov⟩) (hC : B + 2 < C) (hn3 : ∀ g, nv.ownBlock = some g → B + 3 ≤ g) (ho3 : ∀ g, ov.ownBlock = some g → B + 3 ≤ g)
    {A : Option Addr} {c : Nat} (hmo : MsgsOk w (Apart Q B C) (.slice A out.length c) out) (hnm : net.length + out.length ≤ 10000) (ty : TypeId) :
    ∃ v' w', (Builtin.append_ #[28, 28] ty #[ov, .slice A out.length c]).run Try.prog w = .ok v' w' ∧ ∃ wz S, w'.setCell ⟨B, 1, none⟩ v' = wz ∧ Tail wz Q S B ⟨nodes, net ++ out, nv, v'⟩ ∧ Keeps (fun k => k = B ∨ ov.ownBlock = some k) w wz ∧ Keeps (fun k => ov.ownBlock = some k) w w' := by
  obtain ⟨i0, hi, hz, hsz, hby⟩ := info_parts Try.info38
  have hap : ∀ k, Q k → Apart Q B C k := fun k h => .inl h
  have hlow : ∀ k, Apart Q B C k → Q k ∨ B ≤ k := fun k h => h.imp id fun h => h.1
  cases A with
  | none =>
    have hm0 : out = [] := by
      obtain ⟨⟨A', m', c', e, hl, _, _, hc⟩, _⟩ := hmo
      rcases Nat.eq_zero_or_pos out.length with h0 | h0
      · exact List.eq_nil_of_length_eq_zero h0
      · obtain ⟨b, off, e', _⟩ := hc (by rw [mess_len]; omega)
        injection e with e1
        rw [← e1] at e'
        cases e'
    subst hm0
    have hk : Keeps (fun k => k = B) w (w.setCell ⟨B, 1, none⟩ ov) := (Keeps.refl (fun k => k = B) w).setCell (p := ⟨B, 1, none⟩) (.inl rfl) _
    have hst := h.net
    refine ⟨ov, w, run_none Try.underlying28 hi h.net c, _, Apart Q B C, rfl, ?_, hk.mono fun k e => .inl (.inl e), Keeps.refl _ w⟩
    exact { blk := by rw [setCell_blk h.blk]; rfl, nodes := own_set h.nodes _ fun e => by have := hn3 _ e; omega, net := by rw [List.append_nil]; exact own_set h.net _ fun e => by have := ho3 _ e; omega,
            each := fun x hx => (h.each x hx).into hk (fun k _ e => .inr ⟨by omega, by omega⟩) fun _ _ h => h, items := fun m hm => Sl.into (h.items m (by simpa using hm)) hk (fun k _ e => .inr ⟨by omega, by omega⟩) fun _ _ h => h,
            QS := hap, Bl := h.Bl, low := hlow, b0 := .inr ⟨Nat.le_refl _, by omega⟩, b2 := .inr ⟨by omega, hC⟩, nS := fun g hg => ⟨.inr (h.nB g hg), hn3 g hg⟩, oS := fun g hg => ⟨.inr (h.oB g hg), ho3 g hg⟩ }
  | some ad =>
    have hcell : ∀ j u, (out.flatMap mesCells)[j]? = some u → w.cell? (ad.add j) = some u := fun j u hj => by
      obtain ⟨⟨A', m', c', e, hl, _, _, hc⟩, _⟩ := hmo
      injection e with e1 e2 e3
      subst e1
      obtain ⟨b, off, e, _, hcell⟩ := hc (Nat.lt_of_le_of_lt (Nat.zero_le _) (List.getElem?_eq_some_iff.1 hj).1)
      injection e with e
      subst e
      rw [Addr.add_lit]
      exact hcell j u hj
    obtain ⟨v', w', hr, h2, h3, _, h5⟩ := run_append_own_at (P := Try.prog) (w := w) 0 28 ty 38 i0 _ 9 _ Try.underlying28 hi hz hsz hby rfl (by omega) ov net.length _ h.net ad out.length c _ (mess_len out) hcell (mess_one hmo.each) (by simp [maxLen]; omega) (by omega) (by omega)
    have hk : Keeps (fun k => ov.ownBlock = some k) w w' := ⟨h3.os, h3.tape, h3.output, h3.size, fun k hk hne => h3.block k hk fun e => hne e.symm⟩
    have hof : ∀ g, v'.ownBlock = some g → B + 3 ≤ g := fun g hg => by
      rcases h5 with h5 | h5
      · exact ho3 g (h5 ▸ hg)
      · rw [h5] at hg
        injection hg with hg
        have := h.Clt
        omega
    have hk2 : Keeps (fun k => k = B ∨ ov.ownBlock = some k) w (w'.setCell ⟨B, 1, none⟩ v') := (hk.mono fun k e => .inl (.inr e)).setCell (p := ⟨B, 1, none⟩) (.inl (.inl rfl)) _
    have hkS : ∀ k, (k = B ∨ ov.ownBlock = some k) → Apart Q B C k := fun k e => e.elim (fun e => .inr ⟨by omega, by omega⟩) fun e => .inr (h.oB k e)
    have hnew : ∀ k, k < w.heap.size → (Apart Q B C k ∨ v'.ownBlock = some k) → Apart Q B C k := fun k hk' e => e.elim id fun e => by
      rcases h5 with h5 | h5
      · exact .inr (h.oB k (h5 ▸ e))
      · rw [h5] at e
        injection e with e
        omega
    have hb' := (hk.block B (laid_lt h.blk) fun e => by have := ho3 _ e; omega).trans h.blk
    refine ⟨v', w', hr, _, fun k => Apart Q B C k ∨ v'.ownBlock = some k, rfl, ?_, hk2, hk⟩
    exact { blk := by rw [setCell_blk hb']; rfl, nodes := own_set (own_keep h.nodes fun g hg => hk.block g (own_lt h.nodes hg) fun e => own_ne h.nodes h.net (by decide) hg e) _ fun e => by have := hn3 _ e; omega,
            net := by rw [List.flatMap_append, List.length_append]; exact own_set h2 _ fun e => by have := hof _ e; omega,
            each := fun x hx => (h.each x hx).into hk2 (fun k _ e => hkS k e) hnew,
            items := fun m hm => (List.mem_append.1 hm).elim (fun hm => Sl.into (h.items m hm) hk2 (fun k _ e => hkS k e) hnew) fun hm => Sl.into (hmo.each m hm) hk2 (fun k _ e => hkS k e) hnew,
            QS := fun k hq => .inl (.inl hq), Bl := h.Bl, low := fun k e => e.elim (hlow k) fun e => .inr (by have := hof k e; omega), b0 := .inl (.inr ⟨Nat.le_refl _, by omega⟩), b2 := .inl (.inr ⟨by omega, hC⟩),
            nS := fun g hg => ⟨.inl (.inr (h.nB g hg)), hn3 g hg⟩, oS := fun g hg => ⟨.inr hg, hof g hg⟩ }

theorem Tail.cut {w w' : World} {Q S : Nat → Prop} {B : Nat} {nodes : List NodV} {net net1 : List MesV} {nv ov v' : Value} (h : Tail w Q S B ⟨nodes, net, nv, ov⟩) (o3 : w'.ownsRow 0 38 9 v' net1.length (net1.flatMap mesCells)) (hv : v'.ownBlock = ov.ownBlock) (hk : Keeps (fun k => ov.ownBlock = some k) w w') (hsub : ∀ m ∈ net1, m ∈ net) :
    ∃ wz, w'.setCell ⟨B, 1, none⟩ v' = wz ∧ Tail wz Q S B ⟨nodes, net1, nv, v'⟩ ∧ Keeps (fun k => k = B ∨ ov.ownBlock = some k) w wz := by
  have hk2 : Keeps (fun k => k = B ∨ ov.ownBlock = some k) w (w'.setCell ⟨B, 1, none⟩ v') := (hk.mono fun k e => .inl (.inr e)).setCell (p := ⟨B, 1, none⟩) (.inl (.inl rfl)) _
  have hkS : ∀ k, (k = B ∨ ov.ownBlock = some k) → S k := fun k e => e.elim (fun e => e ▸ h.b0) fun e => (h.oS k e).1
  have hb' := (hk.block B (laid_lt h.blk) fun e => by have := (h.oS _ e).2; omega).trans h.blk
  exact ⟨_, rfl, { blk := by rw [setCell_blk hb']; rfl, nodes := own_set (own_keep h.nodes fun g hg => hk.block g (own_lt h.nodes hg) fun e => own_ne h.nodes h.net (by decide) hg e) _ fun e => by have := (h.nS _ e).2; omega, net := own_set o3 _ fun e => by rw [hv] at e; have := (h.oS _ e).2; omega, each := fun x hx => (h.each x hx).into hk2 (fun k _ e => hkS k e) fun _ _ h => h, items := fun m hm => Sl.into (h.items m (hsub m hm)) hk2 (fun k _ e => hkS k e) fun _ _ h => h, QS := h.QS, Bl := h.Bl, low := h.low, b0 := h.b0, b2 := h.b2, nS := h.nS, oS := fun g hg => h.oS g (hv ▸ hg) }, hk2⟩

theorem Tail.done {w wf : World} {Q S : Nat → Prop} {B : Nat} {W : WldV} (h : Tail w Q S B W) (hf : Keeps (fun k => k = B + 2) w wf) : WldOk wf Q W := by
  have h2 : ∀ k, k = B + 2 → S k := fun k e => e ▸ h.b2
  exact Tail.ok { blk := (hf.block B (laid_lt h.blk) (by omega)).trans h.blk, nodes := own_keep h.nodes fun g hg => hf.block g (own_lt h.nodes hg) fun e => by have := (h.nS g hg).2; omega, net := own_keep h.net fun g hg => hf.block g (own_lt h.net hg) fun e => by have := (h.oS g hg).2; omega, each := fun x hx => (h.each x hx).into hf (fun k _ e => h2 k e) fun _ _ h => h, items := fun m hm => Sl.into (h.items m hm) hf (fun k _ e => h2 k e) fun _ _ h => h, QS := h.QS, Bl := h.Bl, low := h.low, b0 := h.b0, b2 := h.b2, nS := h.nS, oS := h.oS }

/-- An append whose end is known. -/
theorem wpList_append_run {P : Program} {w w' : World} {ops : Array Oper} {rest : List Oper} {o : Oper} {a : Act} {Q : Exit → Act → World → Prop} {v vx v' : Value} (hgd : o.guard = none) (s x : Operand) (t : TypeId)
    (ho : o.op = .call { callee := .builtin .append, args := #[s, x], argTypes := #[t, t] }) (hs : a.eval s = v) (hx : a.eval x = vx) (hr : (Builtin.append_ #[t, t] o.type #[v, vx]).run P w = .ok v' w')
    (h : wpList P ops Q rest (a.put o.dst v') w') : wpList P ops Q (o :: rest) a w := by
  refine wpList_plain hgd fun K hK => ?_
  unfold Oper.wp
  simp [execOp, ho, resolve, invoke, builtin, hs, hx, hr, Result.andThen]
  exact hK _ _ h

end Go.Proofs.Ytibjbpakbfodaaa
