/-
  Packets joined and split again; streams that get the pieces of a packet: plain Lean, no program in sight.
  Conditions: each law states its own.
-/
import Derived.Test.YtgkedbhpeafbbaaPure4
set_option linter.unusedSimpArgs false
set_option linter.unusedVariables false
namespace Go.Proofs.Ytgkedbhpeafbbaa
open Go.RowKit

theorem piece_one {p : Pk} {z : Nat} (h : p.sup) (hz : p.g.bd.size ≤ z) : piece p z 0 = p := by
  have h1 := h.idr
  have h2 := h.sq
  obtain ⟨dm, sm, vl, ts, id, tt, si, di, kd, sp, dp, sq, ak, fl, wn, bd⟩ := p
  simp only [piece] at *
  simp only [Pk.mk.injEq, Sg.mk.injEq, true_and]
  refine ⟨by omega, by simp; omega, by rw [if_neg (by omega)], ?_⟩
  simp only [Nat.zero_mul, Nat.zero_add, Nat.one_mul, Nat.min_eq_right hz]
  exact ByteArray.extract_zero_size

/-- A super-packet, taken apart. -/
def expl (s : Su) : List Pk := (List.range s.ct.toNat).map (piece s.p s.sz.toNat)

theorem expl_single {p : Pk} (h : p.sup) : expl (single p) = [p] := by
  have := piece_one h (z := p.g.bd.size) (Nat.le_refl _)
  simp only [expl, single, Int.toNat_natCast, show (1 : Int).toNat = 1 from rfl, List.range_one, List.map_cons, List.map_nil, this]

theorem expl_len (s : Su) : (expl s).length = s.ct.toNat := by simp [expl]

theorem expl_join {s : Su} {q : Pk} (h : s.joins q) : expl (s.join1 q) = expl s ++ [q] := by
  obtain ⟨hs, hq, hp, hk, hf, hst, hz, ⟨hc1, hc2⟩, hn, hm1, hm2, hnm, hsq, hid⟩ := h
  obtain ⟨z, hz'⟩ : ∃ z : Nat, s.sz = z := ⟨s.sz.toNat, by omega⟩
  obtain ⟨c, hc'⟩ : ∃ c : Nat, s.ct = c := ⟨s.ct.toNat, by omega⟩
  have hn' : s.p.g.bd.size = c * z := by rw [hz', hc'] at hn; rw [Nat.mul_comm]; exact_mod_cast hn
  have e1 : (s.join1 q).ct.toNat = c + 1 := by simp only [Su.join1, hc']; omega
  have e2 : (s.join1 q).sz.toNat = z := by simp [Su.join1, hz']
  have e3 : s.ct.toNat = c := by omega
  have e4 : s.sz.toNat = z := by omega
  unfold expl
  rw [e1, e2, e3, e4, List.range_succ, List.map_append]
  congr 1
  · apply List.map_congr_left
    intro k hk
    have hk := List.mem_range.1 hk
    have h1 : (k + 1) * z ≤ c * z := Nat.mul_le_mul_right _ hk
    have h2 : k * z ≤ (k + 1) * z := Nat.mul_le_mul_right _ (by omega)
    unfold piece
    simp only [Su.join1, Pk.mk.injEq, Sg.mk.injEq, true_and, ByteArray.size_append]
    refine ⟨?_, ?_⟩
    · rw [if_pos (by omega), an9_strm hst, hf]
      split <;> first | rfl | decide +kernel
    · rw [Nat.min_eq_left (by omega), Nat.min_eq_left (by omega), ByteArray.extract_append]
      rw [show k * z - s.p.g.bd.size = 0 by omega, show (k + 1) * z - s.p.g.bd.size = 0 by omega]
      simp
  · obtain ⟨g1, g2, g3, g4, g5, g6, g7, g8, g9, g10, g11, g12⟩ := hp
    obtain ⟨dm, sm, vl, ts, id, tt, si, di, kd, sp, dp, sq, ak, fl, wn, bd⟩ := q
    simp only [List.map_cons, List.map_nil, List.cons.injEq, and_true]
    unfold piece
    simp only [Su.join1, Pk.mk.injEq, Sg.mk.injEq, ByteArray.size_append] at *
    have h1 : (c + 1) * z = c * z + z := Nat.succ_mul _ _
    refine ⟨g1, g2, g3, g4, by rw [hid, hc'], g5, g6, g7, g8, g9, g10, by rw [hsq, hn'], g11, by rw [if_neg (by omega)], g12, ?_⟩
    rw [ByteArray.extract_append, Nat.min_eq_right (by omega), hn']
    have : s.p.g.bd.extract (c * z) (c * z + bd.size) = ByteArray.empty := by
      rw [ByteArray.extract_eq_empty_iff]; omega
    rw [this, ByteArray.empty_append, Nat.sub_self, Nat.add_sub_cancel_left]
    exact ByteArray.extract_zero_size

/-- What joining makes. -/
def Jn (s : Su) : Prop := (∃ p : Pk, p.one ∧ s = single p) ∨ (2 ≤ s.ct ∧ s.p.sup ∧ s.p.g.kd = 6 ∧ 1 ≤ s.sz ∧ s.sz ≤ 128 ∧ s.sz < s.p.g.bd.size ∧ pieces s.p.g.bd.size s.sz.toNat = s.ct.toNat)

theorem Jn.sup {s : Su} (h : Jn s) : s.p.sup := by
  rcases h with ⟨p, hp, rfl⟩ | h
  · exact hp.1
  · exact h.2.1
theorem Jn.ct {s : Su} (h : Jn s) : 1 ≤ s.ct := by
  rcases h with ⟨p, hp, rfl⟩ | h
  · simp [single]
  · omega
theorem Jn.reseg {s : Su} (h : Jn s) : reseg1 s = expl s := by
  rcases h with ⟨p, hp, rfl⟩ | ⟨h1, h2, h3, h4, h5, h6, h7⟩
  · rw [expl_single hp.1]; simp [reseg1, single]
  · unfold reseg1
    rw [if_neg (by omega)]
    unfold splitL
    rw [if_pos ⟨h2, h4, h5⟩, if_pos ⟨h3, h6⟩, h7]
    rfl
theorem Jn.join {s : Su} {q : Pk} (h : Jn s) (hj : s.joins q) : Jn (s.join1 q) := by
  have hj' := hj
  obtain ⟨hs, hq, hp, hk, hf, hst, hz, ⟨hc1, hc2⟩, hn, hm1, hm2, hnm, hsq, hid⟩ := hj
  have hz128 : s.sz ≤ 128 := by
    rcases h with ⟨p, hpo, rfl⟩ | h
    · exact hpo.2
    · exact h.2.2.2.2.1
  have hkd : s.p.g.kd = 6 := by rw [hp.2.2.2.2.2.2.2.1, hk]
  obtain ⟨z, hz'⟩ : ∃ z : Nat, s.sz = z := ⟨s.sz.toNat, by omega⟩
  obtain ⟨c, hc'⟩ : ∃ c : Nat, s.ct = c := ⟨s.ct.toNat, by omega⟩
  have hn' : s.p.g.bd.size = c * z := by rw [hz', hc'] at hn; rw [Nat.mul_comm]; exact_mod_cast hn
  have hcz : z ≤ c * z := Nat.le_mul_of_pos_left z (by omega)
  have hsz : (s.join1 q).p.g.bd.size = c * z + q.g.bd.size := by simp [Su.join1, hn']
  refine .inr ⟨by simp only [Su.join1]; omega, ⟨?_, ?_⟩, hkd, by simpa [Su.join1] using hz, by simpa [Su.join1] using hz128, ?_, ?_⟩
  · have h1 := hs.1
    have h2 := hq.1.1
    unfold SegOk at h1 h2 ⊢
    rw [hsz]
    simp only [Su.join1]
    omega
  · have h1 := hs.2
    unfold PkB at h1 ⊢
    rw [hsz]
    simp only [Su.join1]
    omega
  · rw [hsz]; simp only [Su.join1]; omega
  · rw [hsz]
    have e1 : (s.join1 q).sz.toNat = z := by simp [Su.join1, hz']
    have e2 : (s.join1 q).ct.toNat = c + 1 := by simp only [Su.join1, hc']; omega
    rw [e1, e2]
    have h1 : (c + 1) * z = c * z + z := Nat.succ_mul _ _
    have a1 : c < pieces (c * z + q.g.bd.size) z := (pieces_lt (by omega)).2 (by omega)
    have a2 : ¬ (c + 1) < pieces (c * z + q.g.bd.size) z := fun hh => by have := (pieces_lt (by omega)).1 hh; omega
    omega

def cts (l : List Su) : Nat := (l.map fun s => s.ct.toNat).sum
theorem cts_expl (l : List Su) : (l.flatMap expl).length = cts l := by
  induction l with
  | nil => rfl
  | cons s l ih => simp only [List.flatMap_cons, List.length_append, ih, expl_len, cts, List.map_cons, List.sum_cons]

structure JInv (ss : List Su) (l : List Pk) : Prop where
  jn : ∀ s ∈ ss, Jn s
  ex : ss.flatMap expl = l
  apart : ∀ k, 0 < k → k < ss.length → ∀ s q, ss[k - 1]? = some s → l[cts (ss.take k)]? = some q → ¬ s.joins q

theorem cts_take_lt {ss : List Su} (h : ∀ s ∈ ss, Jn s) {k : Nat} (hk : k < ss.length) : cts (ss.take k) < cts ss := by
  have e : ss = ss.take k ++ (ss[k] :: ss.drop (k + 1)) := by simp
  have hc := (h ss[k] (List.getElem_mem hk)).ct
  have e2 : cts ss = cts (ss.take k) + (ss[k].ct.toNat + cts (ss.drop (k + 1))) := by
    conv => lhs; rw [e]
    simp only [cts, List.map_append, List.sum_append, List.map_cons, List.sum_cons]
  omega

theorem JInv.step {ss : List Su} {l : List Pk} (h : JInv ss l) {p : Pk} (hp : p.one) : JInv (coal1 ss p) (l ++ [p]) := by
  have hl : l.length = cts ss := by rw [← h.ex, cts_expl]
  have new : (∀ s, ss.getLast? = some s → ¬ s.joins p) → JInv (ss ++ [single p]) (l ++ [p]) := fun hno => by
    refine ⟨fun s hs => ?_, by rw [List.flatMap_append, h.ex]; simp [expl_single hp.1], fun k hk0 hk s q hs hq => ?_⟩
    · rcases List.mem_append.1 hs with hs | hs
      · exact h.jn s hs
      · simp at hs; subst hs; exact .inl ⟨p, hp, rfl⟩
    · simp at hk
      rw [List.getElem?_append_left (by omega)] at hs
      rw [List.take_append_of_le_length (by omega)] at hq
      rcases Nat.lt_or_ge k ss.length with hlt | hge
      · have := cts_take_lt h.jn hlt
        rw [List.getElem?_append_left (by omega)] at hq
        exact h.apart k hk0 hlt s q hs hq
      · have hke : k = ss.length := by omega
        subst hke
        rw [List.take_length, ← hl] at hq
        simp at hq
        subst hq
        exact hno s (by rw [List.getLast?_eq_getElem?]; exact hs)
  unfold coal1
  cases hg : ss.getLast? with
  | none => exact new fun s hs => by rw [hg] at hs; cases hs
  | some s =>
    dsimp only
    split
    · rename_i hj
      have e : ss = ss.dropLast ++ [s] := by
        obtain ⟨ys, rfl⟩ := List.getLast?_eq_some_iff.1 hg
        simp
      have hjs : Jn s := h.jn s (by rw [e]; simp)
      rw [Su.join, if_pos hj]
      generalize ss.dropLast = dd at e
      subst e
      refine ⟨fun t ht => ?_, ?_, fun k hk0 hk t q ht hq => ?_⟩
      · rcases List.mem_append.1 ht with ht | ht
        · exact h.jn t (by simp [ht])
        · simp at ht; subst ht; exact hjs.join hj
      · rw [← h.ex]; simp [expl_join hj]
      · simp at hk
        rw [List.getElem?_append_left (by omega)] at ht
        rw [List.take_append_of_le_length (by omega)] at hq
        have h1 := cts_take_lt h.jn (k := k) (by simp; omega)
        rw [List.take_append_of_le_length (by omega)] at h1
        rw [List.getElem?_append_left (by omega)] at hq
        exact h.apart k hk0 (by simp; omega) t q (by rw [List.getElem?_append_left (by omega)]; exact ht) (by rw [List.take_append_of_le_length (by omega)]; exact hq)
    · rename_i hj
      exact new fun t ht => by rw [hg] at ht; cases ht; exact hj

theorem JInv.all : ∀ (l : List Pk) (ss : List Su) (l0 : List Pk), JInv ss l0 → (∀ p ∈ l, p.one) → JInv (coalA ss l) (l0 ++ l)
  | [], ss, l0, h, _ => by simpa [coalA] using h
  | p :: l, ss, l0, h, hp => by
    have := JInv.all l (coal1 ss p) (l0 ++ [p]) (h.step (hp p (by simp))) fun q hq => hp q (by simp [hq])
    simpa [coalA] using this

theorem coal_inv {l : List Pk} (h : ∀ p ∈ l, p.one) : JInv (coal l) l := by
  have := JInv.all l [] [] ⟨by simp, rfl, by simp⟩ h
  simpa [coal] using this

theorem JInv.reseg_eq {ss : List Su} {l : List Pk} (h : JInv ss l) : reseg ss = l := by
  have h2 : ∀ ss : List Su, (∀ s ∈ ss, Jn s) → reseg ss = ss.flatMap expl := fun ss hj => by
    induction ss with
    | nil => rfl
    | cons s ss ih =>
      show reseg1 s ++ reseg ss = _
      rw [List.flatMap_cons, (hj s (by simp)).reseg, ih fun t ht => hj t (by simp [ht])]
  rw [h2 ss h.jn, h.ex]
theorem coal_len {l : List Pk} (h : ∀ p ∈ l, p.one) : (coal l).length ≤ l.length ∧ (l ≠ [] → coal l ≠ []) ∧ cts (coal l) = l.length := by
  have hi := coal_inv h
  have e : cts (coal l) = l.length := by rw [← cts_expl, hi.ex]
  have key : ∀ ss : List Su, (∀ s ∈ ss, Jn s) → ss.length ≤ cts ss := fun ss hj => by
    induction ss with
    | nil => simp
    | cons s ss ih =>
      have := (hj s (by simp)).ct
      have := ih fun t ht => hj t (by simp [ht])
      simp only [cts, List.map_cons, List.sum_cons, List.length_cons] at *
      omega
  refine ⟨by have := key _ hi.jn; omega, fun hl he => hl ?_, e⟩
  have := hi.ex
  rw [he] at this
  simpa using this.symm

/-! ### streams that get the pieces -/

theorem ext_app {b : ByteArray} {i j k : Nat} (h1 : i ≤ j) (h2 : j ≤ k) : b.extract i j ++ b.extract j k = b.extract i k := by
  rw [ByteArray.extract_append_extract, Nat.min_eq_left h1, Nat.max_eq_right h2]

theorem upd_pieces {p : Pk} (h : p.sup) (hk : p.g.kd = 6) {z : Nat} (hz : 1 ≤ z) (x : Sm) : ∀ m, 1 ≤ m → m ≤ pieces p.g.bd.size z → p.syn = false → p.rst = false → x.dn = false →
    (List.range m).foldl (fun x k => updM (piece p z k) x) x =
      if (x.nx - p.g.sq) % 4294967296 ≤ ((min (m * z) p.g.bd.size : Nat) : Int) then
        { x with dt := x.dt ++ p.g.bd.extract ((x.nx - p.g.sq) % 4294967296).toNat (min (m * z) p.g.bd.size), nx := (p.g.sq + ((min (m * z) p.g.bd.size : Nat) : Int)) % 4294967296, dn := if m * z < p.g.bd.size then false else p.fin }
      else x := by
  intro m
  have hf := sup_flags h
  have hbd := h.bd
  have hsq := h.sq
  have hkd : ∀ k, (piece p z k).g.kd = 6 := fun k => hk
  have hsyn : p.syn = false → ∀ k, (piece p z k).syn = false := fun hs k => by
    simp only [Pk.syn, piece] at hs ⊢
    split
    · simpa [(an9_syn hf).1] using hs
    · exact hs
  have hrst : p.rst = false → ∀ k, (piece p z k).rst = false := fun hs k => by
    simp only [Pk.rst, piece] at hs ⊢
    split
    · simpa [(an9_syn hf).2.1] using hs
    · exact hs
  have hfin : ∀ k, (piece p z k).fin = if (k + 1) * z < p.g.bd.size then false else p.fin := fun k => by
    simp only [Pk.fin, piece]
    split
    · simp [(an9_syn hf).2.2.1]
    · rfl
  have hsize : ∀ k, k * z ≤ p.g.bd.size → (piece p z k).g.bd.size = min ((k + 1) * z) p.g.bd.size - k * z := fun k hk => by
    simp only [piece, ByteArray.size_extract]; omega
  have hbod : ∀ k, (piece p z k).g.bd = p.g.bd.extract (k * z) (min ((k + 1) * z) p.g.bd.size) := fun k => rfl
  have hseq : ∀ k, (piece p z k).g.sq = (p.g.sq + ((k * z : Nat) : Int)) % 4294967296 := fun k => rfl
  induction m with
  | zero => intro h0; omega
  | succ m ih =>
    intro _ hm hs hr hd
    rw [List.range_succ, List.foldl_append, List.foldl_cons, List.foldl_nil]
    have hmn : m * z < p.g.bd.size := (pieces_lt hz).1 hm
    have hm1 : (m + 1) * z = m * z + z := Nat.succ_mul _ _
    have hsz := hsize m (by omega)
    have hbod := hbod m
    obtain ⟨e, he⟩ : ∃ e, min ((m + 1) * z) p.g.bd.size = e := ⟨_, rfl⟩
    rw [he] at hsz hbod ⊢
    have he1 : m * z < e ∧ e ≤ p.g.bd.size := by omega
    have hszI : (((piece p z m).g.bd.size : Nat) : Int) = (e : Int) - ((m * z : Nat) : Int) := by rw [hsz]; omega
    have hrng := Int.emod_nonneg (x.nx - p.g.sq) (show (4294967296 : Int) ≠ 0 by decide)
    have hrn2 := Int.emod_lt_of_pos (x.nx - p.g.sq) (show (0 : Int) < 4294967296 by decide)
    generalize ho : (x.nx - p.g.sq) % 4294967296 = o at *
    have out : ∀ y : Sm, y.nx = x.nx → y.dn = false → y.dt = x.dt → y.f = x.f → ((m * z : Nat) : Int) < o ∨ m = 0 → updM (piece p z m) y = if o ≤ (e : Int) then { x with dt := x.dt ++ p.g.bd.extract o.toNat e, nx := (p.g.sq + (e : Int)) % 4294967296, dn := if (m + 1) * z < p.g.bd.size then false else p.fin } else x := fun y hy1 hy2 hy3 hy4 hlt => by
      unfold updM
      rw [hkd, if_neg (by decide), hsyn hs, hrst hr, if_neg (by simp), if_neg (by simp [hy2]), hszI, hseq, hfin, hsz, hbod, hy1, hy3]
      have hmo : ((m * z : Nat) : Int) ≤ o := by
        rcases hlt with h | h
        · omega
        · subst h; simp; omega
      have e' : (x.nx - (p.g.sq + ((m * z : Nat) : Int)) % 4294967296) % 4294967296 = o - ((m * z : Nat) : Int) := by omega
      rw [e']
      by_cases hle : o ≤ (e : Int)
      · rw [if_pos (by omega), if_pos hle]
        obtain ⟨f, nx, dt, dn⟩ := y
        obtain ⟨f', nx', dt', dn'⟩ := x
        simp only [Sm.mk.injEq] at *
        refine ⟨hy4, by omega, ?_, trivial⟩
        rw [ByteArray.extract_extract]
        congr 2
        · omega
        · omega
      · rw [if_neg (by omega), if_neg hle]
        obtain ⟨f, nx, dt, dn⟩ := y
        obtain ⟨f', nx', dt', dn'⟩ := x
        simp only [Sm.mk.injEq] at *
        exact ⟨hy4, hy1, hy3, by rw [hy2, hd]⟩
    rcases Nat.eq_zero_or_pos m with h0 | h0
    · subst h0
      exact out x rfl hd rfl rfl (.inr rfl)
    · rw [ih h0 (by omega) hs hr hd, Nat.min_eq_left (show m * z ≤ p.g.bd.size by omega)]
      by_cases hle : o ≤ ((m * z : Nat) : Int)
      · rw [if_pos hle, if_pos hmn, if_pos (by omega)]
        unfold updM
        rw [hkd, if_neg (by decide), hsyn hs, hrst hr, if_neg (by simp), if_neg (by simp), hszI, hseq, hfin, hsz, hbod]
        simp only
        have e' : ((p.g.sq + ((m * z : Nat) : Int)) % 4294967296 - (p.g.sq + ((m * z : Nat) : Int)) % 4294967296) % 4294967296 = 0 := by simp
        rw [e', if_pos (by omega)]
        simp only [Sm.mk.injEq, true_and]
        refine ⟨by omega, ?_⟩
        rw [ByteArray.append_assoc, ByteArray.extract_extract]
        have h1 : o.toNat ≤ m * z := by omega
        have h2 : m * z ≤ e := by omega
        have h3 : min (m * z + (e - m * z)) e = e := by omega
        have h4 : m * z + (0 : Int).toNat = m * z := by simp
        rw [h3, h4, ext_app h1 h2]
        exact ⟨rfl, trivial⟩
      · rw [if_neg hle]
        exact out x rfl hd rfl rfl (.inl (by omega))

theorem upd_split {p : Pk} (h : p.sup) (hk : p.g.kd = 6) {z : Nat} (hz : 1 ≤ z) (hn : 1 ≤ p.g.bd.size) (x : Sm) :
    (List.range (pieces p.g.bd.size z)).foldl (fun x k => updM (piece p z k) x) x = updM p x := by
  have hf := sup_flags h
  have same : ∀ (g : Nat → Sm → Sm), (∀ k, g k x = x) → ∀ m, (List.range m).foldl (fun x k => g k x) x = x := fun g hg m => by
    induction m with
    | zero => rfl
    | succ m ih => rw [List.range_succ, List.foldl_append, ih]; exact hg m
  by_cases hs : p.syn = true
  · rw [same (fun k => updM (piece p z k)) fun k => ?_]
    · unfold updM; rw [if_neg (by omega), if_pos hs]
    · unfold updM
      rw [if_neg (show ¬ (piece p z k).g.kd = 17 by simp only [piece]; omega), if_pos]
      simp only [Pk.syn, piece] at hs ⊢
      split
      · simpa [(an9_syn hf).1] using hs
      · exact hs
  · have hs : p.syn = false := by simpa using hs
    by_cases hr : x.dn = true ∨ p.rst = true
    · rw [same (fun k => updM (piece p z k)) fun k => ?_]
      · unfold updM; rw [if_neg (by omega), hs, if_neg (by simp), if_pos hr]
      · unfold updM
        rw [if_neg (show ¬ (piece p z k).g.kd = 17 by simp only [piece]; omega)]
        split
        · rfl
        · rw [if_pos]
          rcases hr with hr | hr
          · exact .inl hr
          · right
            simp only [Pk.rst, piece] at hr ⊢
            split
            · simpa [(an9_syn hf).2.1] using hr
            · exact hr
    · simp only [not_or, Bool.not_eq_true] at hr
      have hp1 : 1 ≤ pieces p.g.bd.size z := (pieces_lt (k := 0) hz).2 (by omega)
      have hlast : ¬ (pieces p.g.bd.size z) * z < p.g.bd.size := fun hh => by
        have := (pieces_lt hz).2 hh; omega
      have e : updM p x = if (x.nx - p.g.sq) % 4294967296 ≤ p.g.bd.size then
          { x with dt := x.dt ++ p.g.bd.extract ((x.nx - p.g.sq) % 4294967296).toNat p.g.bd.size, nx := (x.nx + p.g.bd.size - (x.nx - p.g.sq) % 4294967296) % 4294967296, dn := p.fin }
        else x := by
        unfold updM
        rw [if_neg (by omega), hs, if_neg (by simp), hr.1, hr.2, if_neg (by simp)]
      rw [upd_pieces h hk hz x _ hp1 (Nat.le_refl _) hs hr.2 hr.1, Nat.min_eq_right (by omega), if_neg hlast, e]
      split
      · simp only [Sm.mk.injEq, true_and, and_true]; omega
      · rfl

theorem any_app {f : Fl} {l : List Sm} {x : Sm} (h : x.f = f) : (l ++ [x]).any (fIs f) = true := by simp [fIs, h]

theorem dlvs_pieces {p : Pk} (h : p.sup) {z : Int} (hz : 1 ≤ z ∧ z ≤ 128) (l : List Sm) : dlvs l (splitL p z) = dlv l p := by
  unfold splitL
  rw [if_pos ⟨h, hz⟩]
  split
  · rename_i hkn
    obtain ⟨hk, hn⟩ := hkn
    obtain ⟨z', rfl⟩ : ∃ z' : Nat, z = z' := ⟨z.toNat, by omega⟩
    rw [Int.toNat_natCast]
    have hz' : 1 ≤ z' := by omega
    have hsup : ∀ k, (piece p z' k).sup := fun k => (piece_sup h hk (by omega)).1
    have hfl : ∀ k, (piece p z' k).flow = p.flow := fun k => rfl
    have any : ∀ (m : Nat) (l : List Sm), l.any (fIs p.flow) = true → dlvs l ((List.range m).map (piece p z')) = modF p.flow (fun x => (List.range m).foldl (fun x k => updM (piece p z' k) x) x) l := fun m l ha => by
      have keep : ∀ m, ∀ x : Sm, ((List.range m).foldl (fun x k => updM (piece p z' k) x) x).f = x.f := fun m x => by
        induction m with
        | zero => rfl
        | succ m ih => rw [List.range_succ, List.foldl_append]; simp only [List.foldl_cons, List.foldl_nil, updM_f]; exact ih
      induction m with
      | zero => simp [dlvs, modF_id]
      | succ m ih =>
        rw [List.range_succ, List.map_append, dlvs_app, ih]
        simp only [List.map_cons, List.map_nil, dlvs_cons, dlvs_nil]
        unfold dlv
        rw [if_pos (hsup m), hfl, if_pos (by rw [modF_any (keep m)]; exact ha), modF_modF (keep m)]
        apply modF_congr
        intro x _ _
        rw [List.foldl_append]; rfl
    have hdl : dlv l p = if l.any (fIs p.flow) then modF p.flow (updM p) l else l ++ newM p := by unfold dlv; rw [if_pos h]
    rw [hdl]
    by_cases ha : l.any (fIs p.flow) = true
    · rw [if_pos ha, any _ _ ha]
      apply modF_congr
      intro x _ _
      exact upd_split h hk hz' (by omega) x
    · rw [if_neg ha]
      have hf := sup_flags h
      have hsyn : ∀ k, (piece p z' k).syn = p.syn := fun k => by
        simp only [Pk.syn, piece]
        split
        · simp [(an9_syn hf).1]
        · rfl
      have hnew : ∀ k, newM (piece p z' k) = if p.syn = true then [⟨p.flow, ((p.g.sq + ((k * z' : Nat) : Int)) % 4294967296 + 1) % 4294967296, ⟨#[]⟩, false⟩] else [] := fun k => by
        unfold newM
        rw [if_neg (show ¬ (piece p z' k).g.kd = 17 by simp only [piece]; omega), hsyn]
        rfl
      have hp1 : 1 ≤ pieces p.g.bd.size z' := (pieces_lt (k := 0) hz').2 (by omega)
      obtain ⟨m, hm⟩ : ∃ m, pieces p.g.bd.size z' = m + 1 := ⟨pieces p.g.bd.size z' - 1, by omega⟩
      have h0 : dlv l (piece p z' 0) = l ++ newM p := by
        unfold dlv
        have hnp : newM p = if p.syn = true then [⟨p.flow, (p.g.sq + 1) % 4294967296, ⟨#[]⟩, false⟩] else [] := by
          unfold newM; rw [if_neg (by omega)]
        rw [if_pos (hsup 0), hfl, if_neg ha, hnew, hnp]
        have := h.sq
        simp only [Nat.zero_mul]
        have e : (p.g.sq + ((0 : Nat) : Int)) % 4294967296 = p.g.sq := by omega
        rw [e]
      by_cases hs : p.syn = true
      · have hn1 : newM p = [⟨p.flow, (p.g.sq + 1) % 4294967296, ⟨#[]⟩, false⟩] := by
          unfold newM; rw [if_neg (by omega), if_pos hs]
        have key : ∀ m, dlvs l ((List.range (m + 1)).map (piece p z')) = l ++ newM p := fun m => by
          induction m with
          | zero => simp only [Nat.zero_add, List.range_one, List.map_cons, List.map_nil, dlvs_cons, dlvs_nil]; exact h0
          | succ m ih =>
            rw [List.range_succ, List.map_append, dlvs_app, ih]
            simp only [List.map_cons, List.map_nil, dlvs_cons, dlvs_nil]
            unfold dlv
            rw [if_pos (hsup _), hfl, if_pos (by rw [hn1]; exact any_app rfl)]
            have : ∀ x ∈ l ++ newM p, x.f = p.flow → updM (piece p z' (m + 1)) x = (fun x => x) x := fun x _ _ => by
              unfold updM
              rw [if_neg (show ¬ (piece p z' (m + 1)).g.kd = 17 by simp only [piece]; omega), hsyn, if_pos hs]
            rw [modF_congr _ this, modF_id]
        rw [hm]; exact key m
      · have hn0 : newM p = [] := by unfold newM; rw [if_neg (by omega), if_neg hs]
        have key : ∀ m, dlvs l ((List.range m).map (piece p z')) = l := fun m => by
          induction m with
          | zero => rfl
          | succ m ih =>
            rw [List.range_succ, List.map_append, dlvs_app, ih]
            simp only [List.map_cons, List.map_nil, dlvs_cons, dlvs_nil]
            unfold dlv
            rw [if_pos (hsup _), hfl, if_neg ha, hnew, if_neg hs, List.append_nil]
        rw [hn0, List.append_nil]; exact key _
  · rfl

theorem dlvs_reseg1 {s : Su} (h : Jn s) (l : List Sm) : dlvs l (reseg1 s) = dlv l s.p := by
  unfold reseg1
  split
  · rfl
  · rename_i hc
    rcases h with ⟨p, hp, rfl⟩ | ⟨h1, h2, h3, h4, h5, h6, h7⟩
    · simp [single] at hc
    · exact dlvs_pieces h2 ⟨h4, h5⟩ l

theorem dlvs_coal {ps : List Pk} (h : ∀ p ∈ ps, p.one) (l : List Sm) : dlvs l ((coal ps).map (·.p)) = dlvs l ps := by
  have hi := coal_inv h
  have key : ∀ (ss : List Su) (l : List Sm), (∀ s ∈ ss, Jn s) → dlvs l (reseg ss) = dlvs l (ss.map (·.p)) := fun ss => by
    induction ss with
    | nil => intro l _; rfl
    | cons s ss ih =>
      intro l hj
      show dlvs l (reseg1 s ++ reseg ss) = _
      rw [dlvs_app, dlvs_reseg1 (hj s (by simp)), ih _ fun t ht => hj t (by simp [ht])]
      rfl
  rw [← key _ _ hi.jn, hi.reseg_eq]

theorem dlv_len (l : List Sm) (p : Pk) : l.length ≤ (dlv l p).length := by
  unfold dlv
  split
  · split
    · rw [modF_len]; exact Nat.le_refl _
    · simp
  · exact Nat.le_refl _
theorem dlvs_len (ps : List Pk) : ∀ l : List Sm, l.length ≤ (dlvs l ps).length := by
  induction ps with
  | nil => intro l; exact Nat.le_refl _
  | cons p ps ih => intro l; exact Nat.le_trans (dlv_len l p) (ih _)

theorem updM_twice {p : Pk} (h : p.sup) (hk : p.g.kd = 6) (x : Sm) : updM p (updM p x) = updM p x := by
  by_cases hs : p.syn = true
  · have : ∀ x, updM p x = x := fun x => by unfold updM; rw [if_neg (by omega), if_pos hs]
    rw [this, this]
  by_cases hr : x.dn = true ∨ p.rst = true
  · have : updM p x = x := by unfold updM; rw [if_neg (by omega), if_neg hs, if_pos hr]
    rw [this, this]
  by_cases ho : (x.nx - p.g.sq) % 4294967296 ≤ p.g.bd.size
  · have e : updM p x = { x with dt := x.dt ++ p.g.bd.extract ((x.nx - p.g.sq) % 4294967296).toNat p.g.bd.size, nx := (x.nx + p.g.bd.size - (x.nx - p.g.sq) % 4294967296) % 4294967296, dn := p.fin } := by
      unfold updM; rw [if_neg (by omega), if_neg hs, if_neg hr, if_pos ho]
    rw [e]
    generalize hy : ({ x with dt := x.dt ++ p.g.bd.extract ((x.nx - p.g.sq) % 4294967296).toNat p.g.bd.size, nx := (x.nx + p.g.bd.size - (x.nx - p.g.sq) % 4294967296) % 4294967296, dn := p.fin } : Sm) = y
    have hnx : y.nx = (x.nx + p.g.bd.size - (x.nx - p.g.sq) % 4294967296) % 4294967296 := by rw [← hy]
    have hdn : y.dn = p.fin := by rw [← hy]
    have hbd := h.bd
    have hsq := h.sq
    by_cases hd : p.fin = true
    · unfold updM; rw [if_neg (by omega), if_neg hs, if_pos (.inl (by rw [hdn]; exact hd))]
    · have e2 : (y.nx - p.g.sq) % 4294967296 = p.g.bd.size := by rw [hnx]; omega
      unfold updM
      simp only [not_or] at hr
      rw [if_neg (by omega), if_neg hs, if_neg (by simp [hdn, hd, hr.2]), e2, if_pos (Int.le_refl _)]
      obtain ⟨f, nx, dt, dn⟩ := y
      simp only [Sm.mk.injEq, true_and] at *
      refine ⟨by omega, ?_, hdn.symm⟩
      rw [Int.toNat_natCast, ByteArray.extract_same, ByteArray.append_empty]
  · have : updM p x = x := by unfold updM; rw [if_neg (by omega), if_neg hs, if_neg hr, if_neg ho]
    rw [this, this]

theorem dlv_twice {p : Pk} (hk : p.g.kd ≠ 17) (l : List Sm) : dlv (dlv l p) p = dlv l p := by
  by_cases h : p.sup
  · have hk6 : p.g.kd = 6 := by rcases h.kd with h | h <;> first | exact h | exact absurd h hk
    have hd : ∀ l, dlv l p = if l.any (fIs p.flow) then modF p.flow (updM p) l else l ++ newM p := fun l => by unfold dlv; rw [if_pos h]
    rw [hd l]
    by_cases ha : l.any (fIs p.flow) = true
    · rw [if_pos ha, hd, modF_any (updM_f p), if_pos ha, modF_modF (updM_f p)]
      exact modF_congr _ fun x _ _ => updM_twice h hk6 x
    · rw [if_neg ha]
      by_cases hs : p.syn = true
      · have hn1 : newM p = [⟨p.flow, (p.g.sq + 1) % 4294967296, ⟨#[]⟩, false⟩] := by
          unfold newM; rw [if_neg hk, if_pos hs]
        rw [hd, if_pos (by rw [hn1]; exact any_app rfl)]
        have : ∀ x ∈ l ++ newM p, x.f = p.flow → updM p x = (fun x => x) x := fun x _ _ => by
          unfold updM; rw [if_neg hk, if_pos hs]
        rw [modF_congr _ this, modF_id]
      · have hn0 : newM p = [] := by unfold newM; rw [if_neg hk, if_neg hs]
        rw [hn0, List.append_nil, hd, if_neg ha, hn0, List.append_nil]
  · have hd : ∀ l, dlv l p = l := fun l => by unfold dlv; rw [if_neg h]
    rw [hd, hd]

theorem dlv_other {p : Pk} {l : List Sm} {k : Nat} {x : Sm} (hx : l[k]? = some x) (hne : x.f ≠ p.flow) : (dlv l p)[k]? = some x := by
  have key : ∀ (l : List Sm) (k : Nat), l[k]? = some x → (modF p.flow (updM p) l)[k]? = some x := fun l => by
    induction l with
    | nil => intro k h; simp at h
    | cons y l ih =>
      intro k h
      cases k with
      | zero =>
        simp at h; subst h
        simp [modF, hne]
      | succ k =>
        simp at h
        unfold modF
        split
        · simpa using h
        · simpa using ih k h
  unfold dlv
  split
  · split
    · exact key l k hx
    · rw [List.getElem?_append_left (List.getElem?_eq_some_iff.1 hx).1]; exact hx
  · exact hx
end Go.Proofs.Ytgkedbhpeafbbaa
