/- slices.Delete of messages, walked: in a row of the call's own some messages are taken out. -/
import Derived.Test.YtibjbpakbfodaaaSpot
import Derived.Test.YtibjbpakbfodaaaExpa
import Derived.Deep.RegionLaw
import Derived.Lib.SliceRun
namespace Go.Proofs.Ytibjbpakbfodaaa
open Go.RowKit

theorem setCells_row (r t : Nat) : ∀ (vs : List Value) (w : World) (k : Nat) (cs : Array Value), w.heap[r]? = some (.cells cs t (0, 0)) → k + vs.length ≤ cs.size →
    (w.setCells r k vs).heap[r]? = some (.cells (cs.toList.take k ++ vs ++ cs.toList.drop (k + vs.length)).toArray t (0, 0)) ∧ Keeps (fun j => j = r) w (w.setCells r k vs)
  | [], w, k, cs, h, hk => by
    refine ⟨?_, Keeps.refl _ w⟩
    unfold World.setCells
    rw [h, List.append_nil]
    simp
  | v :: vs, w, k, cs, h, hk => by
    simp only [List.length_cons] at hk
    obtain ⟨h1, h2⟩ := setCells_row r t vs (w.setCell ⟨r, k, none⟩ v) (k + 1) (cs.setIfInBounds k v) (setCell_blk h) (by simp; omega)
    refine ⟨?_, ((Keeps.refl (fun j => j = r) w).setCell (p := ⟨r, k, none⟩) (.inl rfl) v).trans h2 fun _ h => .inl h⟩
    unfold World.setCells
    rw [h1]
    congr 2
    simp only [Array.toList_setIfInBounds, List.length_cons]
    rw [List.take_succ_eq_append_getElem (by simp; omega), List.take_set_of_le (Nat.le_refl _), List.drop_set_of_lt (by omega)]
    simp [show k + 1 + vs.length = k + (vs.length + 1) by omega]

/-- Nothing, n times. -/
def zeros9 (n : Nat) : List Value := (Builtin.zeroCells #[.int .i64 0, .int .i64 0, .int .i64 0, .int .i64 0, .int .i64 0, .int .i64 0, .int .i64 0, .slice none 0 0, .bool false] n).toList
theorem zeros9_len (n : Nat) : (zeros9 n).length = n * 9 := by simp [zeros9, Builtin.zeroCells]
theorem zeros9_one (n : Nat) : ∀ v ∈ zeros9 n, v.oneCell' = true := by
  intro v hv
  simp only [zeros9, Builtin.zeroCells, Array.toList_map, List.mem_map, Array.toList_range, List.mem_range] at hv
  obtain ⟨i, _, rfl⟩ := hv
  have hlt : i % 9 < 9 := Nat.mod_lt _ (by decide)
  generalize i % 9 = j at hlt
  show ((#[Value.int .i64 0, .int .i64 0, .int .i64 0, .int .i64 0, .int .i64 0, .int .i64 0, .int .i64 0, .slice none 0 0, .bool false] : Array Value)[j]!).oneCell' = true
  rcases j with _ | _ | _ | _ | _ | _ | _ | _ | _ | j <;> first | rfl | omega

theorem run_clear9 (w : World) (ty : TypeId) (b o n c : Nat) (hn : 0 < n) (hc : ∀ j, j < n * 9 → (w.cell? ⟨b, o + j, none⟩).isSome = true) (hf : ∀ j, j < n * 9 → w.frozen? ⟨b, o + j, none⟩ = false) :
    (Builtin.clear_ #[28] ty #[.slice (some ⟨b, o, none⟩) n c]).run Try.prog w = .ok (.tuple #[]) (w.setCells b o (zeros9 n)) := by
  have hst := run_storeCells_cells (P := Try.prog) b o (zeros9 n) 0 w (by rw [zeros9_len]; simpa using hc) (by rw [zeros9_len]; simpa using hf) (zeros9_one n)
  simp only [Nat.add_zero] at hst
  obtain ⟨m, rfl⟩ : ∃ m, n = m + 1 := ⟨n - 1, by omega⟩
  have hz : (Builtin.zeroCells (Value.agg #[.int .i64 0, .int .i64 0, .int .i64 0, .int .i64 0, .int .i64 0, .int .i64 0, .int .i64 0, .slice none 0 0, .bool false]).cells (m + 1)).toList = zeros9 (m + 1) := rfl
  simp [Builtin.clear_, run_underlying Try.underlying28, hz, hst]


theorem Try.info38' : (Try.prog.info? 38).map (fun i => (i.zero, i.size, i.bytes)) = some (some (.agg #[.int .i64 0, .int .i64 0, .int .i64 0, .int .i64 0, .int .i64 0, .int .i64 0, .int .i64 0, .slice none 0 0, .bool false]), 9, 88) := by kernel_rfl

set_option maxRecDepth 100000 in
set_option maxHeartbeats 4000000 in
theorem delete_any {w : World} {g n cap i j : Nat} {cur : Array Value} (hb : w.heap[g]? = some (.cells cur 38 (0, 0))) (hcur : cur.size = cap * 9) (hn : n ≤ cap) (_ : cap ≤ maxLen) (hij : i < j) (hj : j ≤ n)
    (h1 : ∀ u ∈ cur.toList.take (n * 9), u.oneCell' = true) :
    Calls Try.prog 84 #[.slice (some ⟨g, 0, none⟩) n cap, .int .i64 i, .int .i64 j] w fun e w' => e = .returned (.slice (some ⟨g, 0, none⟩) (n - (j - i)) cap) ∧
      ∃ cur', w'.heap[g]? = some (.cells cur' 38 (0, 0)) ∧ cur'.size = cap * 9 ∧ cur'.toList.take ((n - (j - i)) * 9) = cur.toList.take (i * 9) ++ (cur.toList.take (n * 9)).drop (j * 9) ∧ Keeps (fun k => k = g) w w' := by
  obtain ⟨i0, hi0, hz0, hz1, hz2⟩ := info_parts Try.info38'
  obtain ⟨news, hnews⟩ : ∃ news, news = (cur.toList.take (n * 9)).drop (j * 9) := ⟨_, rfl⟩
  have hlen : news.length = (n - j) * 9 := by rw [hnews]; simp; omega
  have hcell : ∀ k (hk : k < cap * 9), w.cell? ⟨g, k, none⟩ = some (cur[k]'(by omega)) := fun k hk => by
    rw [cell_of_row w g k _ _ _ hb, Array.getElem?_eq_getElem (by omega)]
  have hfz : ∀ k, w.frozen? ⟨g, k, none⟩ = false := fun k => frozen_of_row w g k _ _ hb
  obtain ⟨A, hA, hsrc⟩ : ∃ A : Addr, (if cap = j then (some ⟨g, 0, none⟩ : Option Addr) else some ⟨g, j * 9, none⟩) = some A ∧ Hid (∀ t u, news[t]? = some u → w.drew.cell? (A.add t) = some u) := by
    by_cases h : cap = j
    · refine ⟨⟨g, 0, none⟩, by simp [h], fun t u hu => ?_⟩
      have h0 : news.length = 0 := by rw [hlen]; omega
      rw [List.length_eq_zero_iff.1 h0] at hu
      simp at hu
    · refine ⟨⟨g, j * 9, none⟩, by simp [h], fun t u hu => ?_⟩
      have ht : t < (n - j) * 9 := by
        have := (List.getElem?_eq_some_iff.1 hu).1
        rwa [hlen] at this
      rw [Addr.add_lit]
      show w.cell? ⟨g, j * 9 + t, none⟩ = some u
      rw [hcell (j * 9 + t) (by omega), ← hu, hnews, List.getElem?_drop, List.getElem?_take_of_lt (by omega), Array.getElem?_toList, Array.getElem?_eq_getElem (by omega)]
  have s1 : Hid (news.length = (n - j) * 9) := hlen
  have s2 : Hid (∀ u ∈ news, u.oneCell' = true) := fun u hu => h1 u (by rw [hnews] at hu; exact List.mem_of_mem_drop hu)
  have s3 : Hid (∀ t, t < news.length → (w.drew.cell? ⟨g, 0 + i * 9 + t, none⟩).isSome = true ∧ w.drew.frozen? ⟨g, 0 + i * 9 + t, none⟩ = false) := by
    intro t ht
    rw [hlen] at ht
    exact ⟨by show (w.cell? _).isSome = true; rw [hcell _ (by omega)]; rfl, hfz _⟩
  obtain ⟨W1, hW1⟩ : ∃ W1, W1 = w.drew.setCells g (0 + i * 9) news := ⟨_, rfl⟩
  obtain ⟨b1, b2⟩ := setCells_row g 38 news w.drew (0 + i * 9) cur hb (by rw [hlen]; omega)
  rw [← hW1] at b1 b2
  have hsz1 : (cur.toList.take (0 + i * 9) ++ news ++ cur.toList.drop (0 + i * 9 + news.length)).length = cap * 9 := by simp [hlen]; omega
  have hcl : ∀ ty, (Builtin.clear_ #[28] ty #[.slice (some ⟨g, (i + (n - j)) * 9, none⟩) (n - (i + (n - j))) (cap - (i + (n - j)))]).run Try.prog W1 = .ok (.tuple #[]) (W1.setCells g ((i + (n - j)) * 9) (zeros9 (n - (i + (n - j))))) :=
    fun ty => run_clear9 W1 ty g ((i + (n - j)) * 9) _ _ (by omega) (fun t ht => by rw [cell_of_row W1 g _ _ _ _ b1, Array.getElem?_eq_getElem (by rw [List.size_toArray, hsz1]; omega)]; rfl) (fun t ht => frozen_of_row W1 g _ _ _ b1)
  obtain ⟨c1, c2⟩ := setCells_row g 38 (zeros9 (n - (i + (n - j)))) W1 ((i + (n - j)) * 9) _ b1 (by rw [zeros9_len, List.size_toArray, hsz1]; omega)
  have HC1 := Lib.hid c1; have HK := Lib.hid (((Keeps.refl (fun k => k = g) w).drew.trans b2 fun _ h => .inl h).trans c2 fun _ h => .inl h)
  have hW : Hid (W1 = w.drew.setCells g (0 + i * 9) news) := hW1
  have HSZ := Lib.hid hsz1; have HN := Lib.hid hnews; have HL := Lib.hid hlen; have HCUR := Lib.hid hcur
  have hic : i ≤ cap := by omega
  have hjc : j ≤ cap := by omega
  have hne : (i == j) = false := by simpa using Nat.ne_of_lt hij
  have hne' : ((i : Int) == (j : Int)) = false := by simp; omega
  have hcc : ¬ cap = i + (n - j) := by omega
  clear hW1 hcell hfz b1 b2 c1 c2 hsz1 hnews hlen hcur hb h1
  rename_i hcap; unfold maxLen at hcap
  go_enter Try.func84, Try.ntmps84
  go_wp2_with fail
  go_region_law (refine step_append_room rfl (.tmp 22) (.tmp 25) 28 rfl 38 i0 9 Try.underlying28 hi0 hz1 g 0 i cap (by simp [Act.eval, Act.put]) A (n - j) (cap - j) news (by simp [Act.eval, Act.put]) s1.out hsrc.out s2.out (by omega) s3.out ?_; rw [← hW.out])
  go_wp2
  go_ret
  have hL := HSZ.out
  refine ⟨by rw [show n - (j - i) = i + (n - j) by omega]; rfl, _, HC1.out, ?_, ?_, HK.out⟩
  · simp only [List.size_toArray, List.length_append, List.length_take, List.length_drop, zeros9_len, Array.length_toList]
    have := HCUR.out; have := HL.out
    omega
  · rw [show n - (j - i) = i + (n - j) by omega]
    have hl1 : (cur.toList.take (0 + i * 9)).length = i * 9 := by rw [List.length_take]; have := HCUR.out; simp; omega
    simp only []
    rw [List.append_assoc, List.take_append_of_le_length (by rw [List.length_take, hL]; omega), List.take_take, Nat.min_self, List.append_assoc, List.take_append, hl1, List.take_of_length_le (by omega), show 0 + i * 9 = i * 9 by omega]
    congr 1
    rw [List.take_append_of_le_length (by rw [HL.out]; omega), List.take_of_length_le (by rw [HL.out]; omega)]
    exact HN.out

theorem flat_take {α : Type} (f : α → List Value) (s : Nat) (hf : ∀ x, (f x).length = s) (l : List α) (k : Nat) (hk : k ≤ l.length) : (l.flatMap f).take (k * s) = (l.take k).flatMap f := by
  have e : l.flatMap f = (l.take k).flatMap f ++ (l.drop k).flatMap f := by rw [← List.flatMap_append, List.take_append_drop]
  have hl : ((l.take k).flatMap f).length = k * s := by rw [flat_length f s hf, List.length_take, Nat.min_eq_left hk]
  rw [e, ← hl, List.take_left']
  rfl
theorem flat_drop {α : Type} (f : α → List Value) (s : Nat) (hf : ∀ x, (f x).length = s) (l : List α) (k : Nat) (hk : k ≤ l.length) : (l.flatMap f).drop (k * s) = (l.drop k).flatMap f := by
  have e : l.flatMap f = (l.take k).flatMap f ++ (l.drop k).flatMap f := by rw [← List.flatMap_append, List.take_append_drop]
  have hl : ((l.take k).flatMap f).length = k * s := by rw [flat_length f s hf, List.length_take, Nat.min_eq_left hk]
  rw [e, ← hl, List.drop_left']
  rfl

/-- The same, of a row of messages that is the call's own. -/
theorem deleteMsg_any {w : World} {v : Value} {out : List MesV} (h : w.ownsRow 0 38 9 v out.length (out.flatMap mesCells)) {i j : Nat} (hij : i < j) (hj : j ≤ out.length) (hv : ∀ m ∈ out, ∃ A n c, m.iv = .slice A n c) :
    Calls Try.prog 84 #[v, .int .i64 i, .int .i64 j] w fun e w' => ∃ v', e = .returned v' ∧ w'.ownsRow 0 38 9 v' (out.take i ++ out.drop j).length ((out.take i ++ out.drop j).flatMap mesCells) ∧ v'.ownBlock = v.ownBlock ∧ Keeps (fun k => v.ownBlock = some k) w w' := by
  rcases h.2 with ⟨_, h0⟩ | ⟨g, cap, cur, rfl, _, hb, h1, h2, h3, h4⟩
  · omega
  · refine (delete_any hb h3 h1 h2 hij hj (fun u hu => ?_)).mono ?_
    · rw [h4, List.mem_flatMap] at hu
      obtain ⟨m, hm, hu⟩ := hu
      obtain ⟨A, n, c, hv⟩ := hv m hm
      unfold mesCells at hu
      simp only [List.mem_cons, List.not_mem_nil, or_false] at hu
      rcases hu with h | h | h | h | h | h | h | h | h <;> subst h <;> first | rfl | (rw [hv]; rfl)
    · rintro e w' ⟨he, cur', c1, c2, c3, c4⟩
      have hlen : (out.take i ++ out.drop j).length = out.length - (j - i) := by simp; omega
      refine ⟨_, he, ?_, rfl, ?_⟩
      · rw [hlen]
        have hm : ∀ m, (mesCells m).length = 9 := fun _ => rfl
        refine ⟨by rw [flat_length _ 9 hm, hlen], .inr ⟨g, cap, cur', rfl, Nat.zero_le _, c1, by omega, h2, c2, ?_⟩⟩
        rw [c3, h4, List.flatMap_append]
        rw [flat_drop _ 9 hm out j hj, ← flat_take _ 9 hm out i (by omega), ← h4, List.take_take, Nat.min_eq_left (by omega)]
      · exact c4.mono fun k e => .inl (by rw [e]; rfl)
end Go.Proofs.Ytibjbpakbfodaaa
