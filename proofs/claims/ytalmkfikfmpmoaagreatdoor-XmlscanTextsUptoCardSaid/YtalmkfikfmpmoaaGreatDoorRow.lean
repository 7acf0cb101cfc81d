/- Rows of a slice that is owned, as assertions; append onto them. -/
import Derived.Test.YtalmkfikfmpmoaaGreatDoorSl
import Derived.Maps.AppendAt
import Derived.Lib.AppendStr
import Derived.Deep.RegionHeld2
namespace Go.Proofs.YtalmkfikfmpmoaaGreatDoor
open Go.RowKit

/-- In a region that draws its order: a way that ends (by a panic, say) is told, and a goal that is never met is left for the tactic. -/
theorem dead {S : World → Prop} {K : Act → World → Prop} {R : Act → World → Prop} {G : Prop} (_ : Shut (∀ a w, S w → (S w → R a w) → K a w)) (hG : G) (_ : False → K { tmps := #[], defers := [] } default) : G := hG

/-- The slice value v of n elements (each of size cells) is nil, or owns a row whose first cells are xs. -/
def Row (e : TypeId) (size : Nat) (v : Value) (n : Nat) (xs : List Value) : Asn := fun h =>
  xs.length = n * size ∧ ((v = .slice none 0 0 ∧ n = 0 ∧ Asn.emp h) ∨
    ∃ g cap cur, v = .slice (some ⟨g, 0, none⟩) n cap ∧ n ≤ cap ∧ cap ≤ maxLen ∧ cur.size = cap * size ∧ cur.toList.take (n * size) = xs ∧ Asn.pts g (.cells cur e (0, 0)) h)

section
variable {W w : World} {L : List Asn} {e : TypeId} {size : Nat} {v : Value} {n : Nat} {xs : List Value}

theorem Row.cases (x : Hold W w (Row e size v n xs :: L)) : xs.length = n * size ∧ ((v = .slice none 0 0 ∧ n = 0 ∧ Hold W w L) ∨
    ∃ g cap cur, v = .slice (some ⟨g, 0, none⟩) n cap ∧ n ≤ cap ∧ cap ≤ maxLen ∧ cur.size = cap * size ∧ cur.toList.take (n * size) = xs ∧ Hold W w (Asn.pts g (.cells cur e (0, 0)) :: L)) := by
  obtain ⟨a, h, ⟨h1, h2, ⟨hl, p⟩, r⟩, d⟩ := x
  refine ⟨hl, ?_⟩
  rcases p with ⟨hv, hn, he⟩ | ⟨g, cap, cur, h3, h4, h5, h6, h7, h8⟩
  · refine .inl ⟨hv, hn, ?_⟩
    have y : Hold W w (Asn.emp :: L) := ⟨a, h, ⟨h1, h2, he, r⟩, d⟩
    exact y.drop
  · exact .inr ⟨g, cap, cur, h3, h4, h5, h6, h7, ⟨a, h, ⟨h1, h2, h8, r⟩, d⟩⟩

theorem Row.nil (x : Hold W w L) : Hold W w (Row e size (.slice none 0 0) 0 [] :: L) :=
  x.emp'.mono fun _ he => ⟨by simp, .inl ⟨rfl, rfl, he⟩⟩

theorem Row.mk {g cap : Nat} {cur : Array Value} (hn : n ≤ cap) (hc : cap ≤ maxLen) (hs : cur.size = cap * size) (ht : cur.toList.take (n * size) = xs)
    (x : Hold W w (Asn.pts g (.cells cur e (0, 0)) :: L)) : Hold W w (Row e size (.slice (some ⟨g, 0, none⟩) n cap) n xs :: L) :=
  x.mono fun _ p => ⟨by rw [← ht, List.length_take, Array.length_toList, hs]; exact Nat.min_eq_left (Nat.mul_le_mul_right _ hn), .inr ⟨g, cap, cur, rfl, hn, hc, hs, ht, p⟩⟩

theorem Row.own (x : Hold W w (Row e size v n xs :: L)) : w.ownsRow 0 e size v n xs := by
  obtain ⟨hl, p⟩ := Row.cases x
  refine ⟨hl, ?_⟩
  rcases p with ⟨hv, hn, _⟩ | ⟨g, cap, cur, h3, h4, h5, h6, h7, h8⟩
  · exact .inl ⟨hv, hn⟩
  · exact .inr ⟨g, cap, cur, h3, Nat.zero_le _, h8.block, h4, h5, h6, h7⟩

/-- The length of the slice value. -/
theorem Row.slice (x : Hold W w (Row e size v n xs :: L)) : ∃ a cap, v = .slice a n cap := by
  obtain ⟨_, p⟩ := Row.cases x
  rcases p with ⟨hv, hn, _⟩ | ⟨g, cap, cur, h3, _⟩
  · exact ⟨none, 0, by rw [hv, hn]⟩
  · exact ⟨_, _, h3⟩

theorem Row.cap {a : Option Addr} {c m : Nat} (x : Hold W w (Row e size (.slice a m c) n xs :: L)) : m = n ∧ n ≤ c ∧ c ≤ maxLen := by
  obtain ⟨_, p⟩ := Row.cases x
  rcases p with ⟨hv, rfl, _⟩ | ⟨g, cap, cur, hv, h4, h5, _⟩
  · cases hv; exact ⟨rfl, Nat.le_refl _, Nat.zero_le _⟩
  · cases hv; exact ⟨rfl, h4, h5⟩

theorem Row.put {w' : World} {v' : Value} {n' : Nat} {xs' : List Value} (x : Hold W w (Row e size v n xs :: L)) (ho : w'.ownsRow 0 e size v' n' xs') (hg : w.grownBy w' v.ownBlock)
    (hb : v'.ownBlock = v.ownBlock ∨ v'.ownBlock = some w.heap.size) : Hold W w' (Row e size v' n' xs' :: L) := by
  obtain ⟨hl', ho⟩ := ho
  obtain ⟨hl, p⟩ := Row.cases x
  have make : ∀ (g cap : Nat) (cur : Array Value), v' = .slice (some ⟨g, 0, none⟩) n' cap → n' ≤ cap → cap ≤ maxLen → cur.size = cap * size → cur.toList.take (n' * size) = xs' →
      Hold W w' (Asn.pts g (.cells cur e (0, 0)) :: L) → Hold W w' (Row e size v' n' xs' :: L) := by
    rintro g cap cur rfl h1 h2 h3 h4 h5
    exact Row.mk h1 h2 h3 h4 h5
  rcases p with ⟨rfl, rfl, y⟩ | ⟨g, cap, cur, rfl, h4, h5, h6, h7, y⟩
  · rcases ho with ⟨rfl, rfl⟩ | ⟨g', cap', cur', rfl, _, hg', k1, k2, k3, k4⟩
    · have : xs' = [] := List.eq_nil_of_length_eq_zero (by simpa using hl')
      subst this
      exact Row.nil (y.kept hg.os hg.tape hg.output hg.size fun k hk => hg.block k hk (by simp [Value.ownBlock]))
    · have hgs : g' = w.heap.size := by simpa [Value.ownBlock] using hb
      subst hgs
      exact make _ _ _ rfl k1 k2 k3 k4 (y.fresh hg.os hg.tape hg.output hg.size hg' fun k hk => hg.block k hk (by simp [Value.ownBlock]))
  · rcases ho with ⟨rfl, rfl⟩ | ⟨g', cap', cur', rfl, _, hg', k1, k2, k3, k4⟩
    · simp [Value.ownBlock] at hb
    · have hb' : g' = g ∨ g' = w.heap.size := by simpa [Value.ownBlock] using hb
      rcases hb' with rfl | rfl
      · exact make _ _ _ rfl k1 k2 k3 k4 (y.put hg.os hg.tape hg.output hg.size hg' fun k hk hne => hg.block k hk (by simp [Value.ownBlock]; exact hne))
      · refine make _ _ _ rfl k1 k2 k3 k4 ?_
        have hfar := y.far
        have hlt := y.lt
        obtain ⟨o1, h, ⟨h1, h2, q, a4, e1, d1⟩, r⟩ := y
        have hb2 : h2 g = none := by
          rcases d1 g with z | z
          · rw [(q g _).2 ⟨rfl, rfl⟩] at z; cases z
          · exact z
        have hn : h2 w.heap.size = none := by
          cases z : h2 w.heap.size with
          | none => rfl
          | some o => have := (r _ _ ((e1 _ _).2 (.inr z))).2; simp at this
        refine ⟨o1.trans ⟨hg.os, hg.tape, hg.output, hg.size, fun k hk => hg.block k (by omega) (by simp [Value.ownBlock]; omega)⟩, fun k => if k = w.heap.size then some (.cells cur' e (0, 0)) else h2 k,
          ⟨fun k => if k = w.heap.size then some (.cells cur' e (0, 0)) else none, h2, ?_, a4, ?_, ?_⟩, ?_⟩
        · intro k o'; by_cases hk : k = w.heap.size <;> simp [hk, eq_comm]
        · intro k o'
          by_cases hk : k = w.heap.size
          · simp [hk, hn]
          · simp [hk]
        · intro k
          by_cases hk : k = w.heap.size
          · right; rw [hk]; exact hn
          · left; simp [hk]
        · intro k o' hk
          by_cases hk' : k = w.heap.size
          · subst hk'; simp only [if_true] at hk; rw [← hk]; exact ⟨hlt, hg'⟩
          · simp only [hk', if_false] at hk
            have := r k o' ((e1 k o').2 (.inr hk))
            have hkg : k ≠ g := by rintro rfl; rw [hb2] at hk; cases hk
            refine ⟨this.1, ?_⟩
            rw [hg.block k (Array.getElem?_eq_some_iff.1 this.2).1 (by simp [Value.ownBlock]; exact hkg)]; exact this.2

variable {P : Program}

/-- append of m elements that lie in cells. -/
theorem wpl_append {ops : Array Oper} {rest : List Oper} {o : Oper} {a : Act} {Q : Exit → Act → World → Prop} (hgd : o.guard = none) (s y : Operand) (t : TypeId)
    (ho : o.op = .call { callee := .builtin .append, args := #[s, y], argTypes := #[t, t] })
    (i : TypeInfo) (z : Value) (bytes : Nat) (ht : P.underlying t = some (.slice e)) (hi : P.info? e = some i) (hz : i.zero = some z)
    (hsize : i.size = size) (hby : i.bytes = bytes) (hzs : z.cells.size = size) (hsz : 0 < size)
    (hs : a.eval s = v) (x : Hold W w (Row e size v n xs :: L))
    (ad : Addr) (m c : Nat) (news : List Value) (hx : a.eval y = .slice (some ad) m c) (hl : news.length = m * size) (hnews : ∀ j u, news[j]? = some u → w.cell? (ad.add j) = some u) (h1 : ∀ u ∈ news, u.oneCell' = true)
    (h63 : n + m ≤ maxLen) (hbytes : (n + m) * bytes ≤ 140737488355328)
    (h : ∀ v' w', Hold W w' (Row e size v' (n + m) (xs ++ news) :: L) → wpList P ops Q rest (a.put o.dst v') w') :
    wpList P ops Q (o :: rest) a w :=
  wpList_append_own_at w hgd s y t ho 0 e i z size bytes ht hi hz hsize hby hzs hsz v n xs hs (Row.own x) ad m c news hx hl hnews h1 h63 hbytes (Nat.zero_le _)
    fun v' w' h2 h3 _ h5 => h v' w' (Row.put x h2 h3 h5)

/-- append onto a slice whose capacity is its length: all goes over into a new row; the old one stands. -/
theorem wpl_append_copy {ops : Array Oper} {rest : List Oper} {o : Oper} {a : Act} {Q : Exit → Act → World → Prop} (hgd : o.guard = none) (s y : Operand) (t : TypeId)
    (ho : o.op = .call { callee := .builtin .append, args := #[s, y], argTypes := #[t, t] })
    (i : TypeInfo) (z : Value) (bytes : Nat) (ht : P.underlying t = some (.slice e)) (hi : P.info? e = some i) (hz : i.zero = some z)
    (hsize : i.size = size) (hby : i.bytes = bytes) (hzs : z.cells.size = size)
    (sa : Option Addr) (sc : Nat) (hs : a.eval s = .slice sa n n) (x : Hold W w (Row e size (.slice sa n sc) n xs :: L))
    (ad : Addr) (m c : Nat) (hm : 0 < m) (news : List Value) (hx : a.eval y = .slice (some ad) m c) (hl : news.length = m * size) (hnews : ∀ j u, news[j]? = some u → w.cell? (ad.add j) = some u)
    (h63 : n + m ≤ maxLen) (hbytes : (n + m) * bytes ≤ 140737488355328)
    (h : ∀ ua uc w', Hold W w' (Row e size (.slice ua (n + m) uc) (n + m) (xs ++ news) :: Row e size (.slice sa n sc) n xs :: L) → wpList P ops Q rest (a.put o.dst (.slice ua (n + m) uc)) w') :
    wpList P ops Q (o :: rest) a w := by
  subst hsize
  subst hby
  refine wpList_plain hgd fun K hK => ?_
  have hsmall : n + m ≤ 9223372036854775807 := by simp only [maxLen] at h63; omega
  obtain ⟨hlx, p⟩ := Row.cases x
  have fin : ∀ (old : Nat) (v' : Value) (w' : World), v' = .slice (some ⟨w.heap.size, 0, none⟩) (n + m) (grownCap w (n + m) old e) →
      w' = w.drew.alloc (.cells (xs.toArray ++ news.toArray ++ Builtin.zeroCells z.cells (grownCap w (n + m) old e - (n + m))) e) →
      (Builtin.append_ #[t, t] o.type #[.slice sa n n, .slice (some ad) m c]).run P w = .ok v' w' → o.wp P a w K Q := by
    rintro old v' w' rfl rfl hr
    have hge := grownCap_ge w (n + m) old e
    unfold Oper.wp execOp
    simp only [ho, resolve, invoke, builtin, Sem.run_bind, Sem.run_pure, Result.andThen_ok, List.map_toArray, List.map_cons, List.map_nil, hs, hx, hr]
    refine hK _ _ (h _ _ _ (Row.mk hge (grownCap_le_maxLen w _ old e h63) ?_ ?_ (Hold.allocAt x.drew rfl rfl)))
    · simp [size_zeroCells, hzs, hlx, hl, ← Nat.add_mul]; congr 1; omega
    · simp only [Array.toList_append]
      have hlen : (xs ++ news).length = (n + m) * i.size := by rw [List.length_append, hlx, hl, Nat.add_mul]
      rw [← hlen, List.take_append_of_le_length (by simp)]
      exact List.take_of_length_le (by simp)
  rcases p with ⟨hv, rfl, yy⟩ | ⟨g, cap, cur, hv, h4, h5, h6, h7, yy⟩
  · obtain ⟨rfl, rfl⟩ : sa = none ∧ sc = 0 := by cases hv; exact ⟨rfl, rfl⟩
    have hx0 : xs = [] := List.eq_nil_of_length_eq_zero (by simpa using hlx)
    subst hx0
    have hr := run_append_nil (P := P) w t o.type e i z ht hi hz ad m c news hl hnews (by omega) (by omega) (by have hb := hbytes; simp only [Nat.zero_add] at hb; omega)
    refine fin 0 _ _ ?_ ?_ hr
    · simp
    · simp
  · obtain ⟨rfl, rfl⟩ : sa = some ⟨g, 0, none⟩ ∧ sc = cap := by cases hv; exact ⟨rfl, rfl⟩
    have holds : ∀ j u, xs[j]? = some u → w.cell? ((⟨g, 0, none⟩ : Addr).add j) = some u := (Row.own x).cells (g := g) rfl
    have hr := run_append_grow (P := P) w t o.type e i z ht hi hz ⟨g, 0, none⟩ n n xs hlx holds ad m c news hl hnews (by omega) (by omega) (growslice_fits (by omega) hbytes)
    exact fin n _ _ rfl rfl hr

/-- The same where the order is drawn. -/
theorem step_append {ops : Array Oper} {o : Oper} {a : Act} {K : Act → World → Prop} {Q : Exit → Act → World → Prop} {E : Prop} (hgd : o.guard = none) (s y : Operand) (t : TypeId)
    (ho : o.op = .call { callee := .builtin .append, args := #[s, y], argTypes := #[t, t] })
    (i : TypeInfo) (z : Value) (bytes : Nat) (ht : P.underlying t = some (.slice e)) (hi : P.info? e = some i) (hz : i.zero = some z)
    (hsize : i.size = size) (hby : i.bytes = bytes) (hzs : z.cells.size = size) (hsz : 0 < size)
    (hs : a.eval s = v) (x : Hold W w (Row e size v n xs :: L))
    (ad : Addr) (m c : Nat) (news : List Value) (hx : a.eval y = .slice (some ad) m c) (hl : news.length = m * size) (hnews : ∀ j u, news[j]? = some u → w.cell? (ad.add j) = some u) (h1 : ∀ u ∈ news, u.oneCell' = true)
    (h63 : n + m ≤ maxLen) (hbytes : (n + m) * bytes ≤ 140737488355328)
    (h : ∀ ua uc w', Hold W w' (Row e size (.slice ua (n + m) uc) (n + m) (xs ++ news) :: L) → K (a.put o.dst (.slice ua (n + m) uc)) w') :
    if Region.wanted o (yielded ops a.tmps) = true then Oper.wp P o a w K Q else E := by
  have hw : Region.wanted o (yielded ops a.tmps) = true := by simp [Region.wanted, hgd]
  rw [if_pos hw]
  obtain ⟨v', w', hr, h2, h3, h4, h5⟩ := run_append_own_at (P := P) w 0 t o.type e i z size bytes ht hi hz hsize hby hzs hsz v n xs (Row.own x) ad m c news hl hnews h1 h63 hbytes (Nat.zero_le _)
  have y := Row.put x h2 h3 h5
  obtain ⟨ua, uc, rfl⟩ := Row.slice y
  unfold Oper.wp execOp
  simp only [ho, resolve, invoke, builtin, Sem.run_bind, Sem.run_pure, Result.andThen_ok, List.map_toArray, List.map_cons, List.map_nil, hs, hx, hr]
  exact h ua uc w' y

/-- A block that is known whole, as what is appended. -/
theorem news_of {b : Nat} {cs : Array Value} {T : TypeId} {fz : Nat × Nat} (x : Hold W w (Asn.pts b (.cells cs T fz) :: L)) : ∀ j u, cs.toList[j]? = some u → w.cell? ((⟨b, 0, none⟩ : Addr).add j) = some u := by
  intro j u hu
  have hadd : (⟨b, 0, none⟩ : Addr).add j = ⟨b, j, none⟩ := by unfold Addr.add; split <;> simp_all
  rw [hadd, x.cell]
  simpa using hu

theorem run_append_str (t u ty e : TypeId) (i : TypeInfo) (ht : P.underlying t = some (.slice e)) (hu : P.underlying u = some .string) (hi : P.info? e = some i) (hz : i.zero = some (.int .u8 0))
    (hsize : i.size = 1) (hby : i.bytes = 1) (x : Hold W w (Row e 1 v n xs :: L)) (s : ByteArray) (h63 : n + s.size ≤ maxLen) (hbytes : n + s.size ≤ 140737488355328) :
    ∃ v' w', (Builtin.append_ #[t, u] ty #[v, .string s]).run P w = .ok v' w' ∧ Hold W w' (Row e 1 v' (n + s.size) (xs ++ Lib.strCells s) :: L) := by
  have hsmall : n + s.size ≤ 9223372036854775807 := by simp only [maxLen] at h63; omega
  have hsc := Lib.strCells_length s
  obtain ⟨hl, p⟩ := Row.cases x
  rcases p with ⟨rfl, rfl, y⟩ | ⟨g, cap, cur, rfl, h4, h5, h6, h7, y⟩
  · have hx : xs = [] := List.eq_nil_of_length_eq_zero (by simpa using hl)
    subst hx
    by_cases h0 : s.size = 0
    · have hsn : Lib.strCells s = [] := List.eq_nil_of_length_eq_zero (by omega)
      refine ⟨.slice none 0 0, w, ?_, ?_⟩
      · simp [Builtin.append_, run_underlying ht, run_underlying hu, sizeOf, typeInfo, hi, Builtin.lenOf, h0]
        simp [Builtin.firstCells]
      · rw [h0, hsn]; simpa using Row.nil y
    · refine ⟨_, _, run_append_nil_string (P := P) w t u ty e i _ ht hu hi hz s (by omega) (by omega) (by rw [hby]; omega), ?_⟩
      have hge := grownCap_ge w s.size 0 e
      rw [show (0 : Nat) + s.size = s.size from Nat.zero_add _]
      refine Row.mk hge (grownCap_le_maxLen w _ 0 e (by omega)) ?_ ?_ (Hold.allocAt (y.drew) rfl rfl)
      · simp [size_zeroCells, Value.cells]; have : s.data.size = s.size := rfl; omega
      · simp only [Array.toList_append, Nat.mul_one]
        rw [List.take_append_of_le_length (by simp)]
        rw [List.take_of_length_le (by simp)]
        simp [Lib.strCells]
  · have hlen : xs.length = n := by simpa using hl
    by_cases hroom : n + s.size ≤ cap
    · have hfit : n + s.size ≤ cur.size := by rw [h6]; omega
      refine ⟨_, _, Lib.run_append_room_string (P := P) w t u ty e i ht hu hi hsize g n cap cur y.block s hroom hfit, ?_⟩
      refine Row.mk hroom h5 ?_ ?_ (y.put rfl rfl rfl (by simp) (setRow_heap w g cur _ e _ y.block) fun k _ hk => setRow_other w g k _ hk)
      · simp only [List.size_toArray, List.length_append, List.length_take, List.length_drop, Array.length_toList, hsc]; omega
      · have h7' : cur.toList.take n = xs := by simpa using h7
        rw [h7', Nat.mul_one]
        rw [List.take_append_of_le_length (by simp [hsc, hlen])]
        exact List.take_of_length_le (by simp [hsc, hlen])
    · have holds : ∀ j u, xs[j]? = some u → w.cell? ((⟨g, 0, none⟩ : Addr).add j) = some u := (Row.own x).cells (g := g) rfl
      refine ⟨_, _, Lib.run_append_grow_string (P := P) w t u ty e i _ ht hu hi hz ⟨g, 0, none⟩ n cap xs (by rw [hsize]; omega) holds s (by omega) (by omega) (growslice_fits (by omega) (by rw [hby]; omega)), ?_⟩
      have hge := grownCap_ge w (n + s.size) cap e
      refine Row.mk hge (grownCap_le_maxLen w _ cap e h63) ?_ ?_ (Hold.allocAt (y.drop.drew) rfl rfl)
      · simp [size_zeroCells, Value.cells, hsc]; omega
      · simp only [Array.toList_append, Nat.mul_one]
        rw [List.take_append_of_le_length (by simp [hsc, hlen])]
        exact List.take_of_length_le (by simp [hsc, hlen])

/-- append of a string's bytes. -/
theorem wpl_append_str {ops : Array Oper} {rest : List Oper} {o : Oper} {a : Act} {Q : Exit → Act → World → Prop} (hgd : o.guard = none) (sl y : Operand) (t u : TypeId)
    (ho : o.op = .call { callee := .builtin .append, args := #[sl, y], argTypes := #[t, u] })
    (i : TypeInfo) (ht : P.underlying t = some (.slice e)) (hu : P.underlying u = some .string) (hi : P.info? e = some i) (hz : i.zero = some (.int .u8 0))
    (hsize : i.size = 1) (hby : i.bytes = 1) (hs : a.eval sl = v) (x : Hold W w (Row e 1 v n xs :: L)) (s : ByteArray) (hx : a.eval y = .string s)
    (h63 : n + s.size ≤ maxLen) (hbytes : n + s.size ≤ 140737488355328)
    (h : ∀ v' w', Hold W w' (Row e 1 v' (n + s.size) (xs ++ Lib.strCells s) :: L) → wpList P ops Q rest (a.put o.dst v') w') : wpList P ops Q (o :: rest) a w := by
  refine wpList_plain hgd fun K hK => ?_
  obtain ⟨v', w', hr, h2⟩ := run_append_str (P := P) t u o.type e i ht hu hi hz hsize hby x s h63 hbytes
  unfold Oper.wp execOp
  simp only [ho, resolve, invoke, builtin, Sem.run_bind, Sem.run_pure, Result.andThen_ok, List.map_toArray, List.map_cons, List.map_nil, hs, hx, hr]
  exact hK _ _ (h v' w' h2)
end
end Go.Proofs.YtalmkfikfmpmoaaGreatDoor
