/-
  What the functions on packets, super-packets and streams compute, in plain Lean; no program in sight.
  Conditions: none.
-/
import Derived.Test.YtgkedbhpeafbbaaW2Sup
import Derived.Test.YtgkedbhpeafbbaaBits
import Derived.Test.YtgkedbhpeafbbaaWords
set_option linter.unusedSimpArgs false
set_option linter.unusedVariables false
namespace Go.Proofs.Ytgkedbhpeafbbaa
open Go.RowKit

/-! ### packets -/

abbrev Pk.sup (p : Pk) : Prop := SupOk p.dm p.sm p.vl p.ts p.id p.tt p.si p.di p.g.kd p.g.sp p.g.dp p.g.sq p.g.ak p.g.fl p.g.wn p.g.bd.size
abbrev Pk.one (p : Pk) : Prop := p.sup ∧ (p.g.bd.size : Int) ≤ 128
/-- The same but for number, sequence, flags and body. -/
def path (p q : Pk) : Prop := p.dm = q.dm ∧ p.sm = q.sm ∧ p.vl = q.vl ∧ p.ts = q.ts ∧ p.tt = q.tt ∧ p.si = q.si ∧ p.di = q.di ∧ p.g.kd = q.g.kd ∧ p.g.sp = q.g.sp ∧ p.g.dp = q.g.dp ∧ p.g.ak = q.g.ak ∧ p.g.wn = q.g.wn
instance {p q : Pk} : Decidable (path p q) := by unfold path; infer_instance
def Pk.flow (p : Pk) : Fl := ⟨p.g.kd, p.si, p.di, p.g.sp, p.g.dp⟩

/-- The flags without the last two marks. -/
def an9v (x : Int) : Int := bitsOf .i64 .andNot x 9
def piece (p : Pk) (z k : Nat) : Pk :=
  { p with id := (p.id + k) % 65536, g := { p.g with sq := (p.g.sq + ((k * z : Nat) : Int)) % 4294967296, fl := if (k + 1) * z < p.g.bd.size then an9v p.g.fl else p.g.fl, bd := p.g.bd.extract (k * z) (min ((k + 1) * z) p.g.bd.size) } }
/-- How many pieces. -/
def pieces (n z : Nat) : Nat := (n + z - 1) / z
def splitL (p : Pk) (z : Int) : List Pk :=
  if p.sup ∧ 1 ≤ z ∧ z ≤ 128 then (if p.g.kd = 6 ∧ z < p.g.bd.size then (List.range (pieces p.g.bd.size z.toNat)).map (piece p z.toNat) else [p]) else []

theorem pieces_lt {n z k : Nat} (hz : 1 ≤ z) : k < pieces n z ↔ k * z < n := by
  unfold pieces
  constructor
  · intro h
    have : (k + 1) * z ≤ n + z - 1 := (Nat.le_div_iff_mul_le (by omega)).1 h
    rw [Nat.succ_mul] at this; omega
  · intro h
    have : (k + 1) * z ≤ n + z - 1 := by rw [Nat.succ_mul]; omega
    exact (Nat.le_div_iff_mul_le (by omega)).2 this

/-! ### super-packets -/

def Su.joins (s : Su) (p : Pk) : Prop := s.p.sup ∧ p.one ∧ path s.p p ∧ p.g.kd = 6 ∧ s.p.g.fl = 16 ∧ Strm p.g.fl ∧ 1 ≤ s.sz ∧ (1 ≤ s.ct ∧ s.ct ≤ 320) ∧ (s.p.g.bd.size : Int) = s.sz * s.ct ∧ 1 ≤ (p.g.bd.size : Int) ∧ (p.g.bd.size : Int) ≤ s.sz ∧
  (s.p.g.bd.size : Int) + p.g.bd.size ≤ 320 ∧ p.g.sq = (s.p.g.sq + s.p.g.bd.size) % 4294967296 ∧ p.id = (s.p.id + s.ct) % 65536
instance {s : Su} {p : Pk} : Decidable (s.joins p) := by unfold Su.joins; infer_instance
def single (p : Pk) : Su := ⟨p, p.g.bd.size, 1⟩
def Su.join1 (s : Su) (p : Pk) : Su := { s with p := { s.p with g := { s.p.g with fl := p.g.fl, bd := s.p.g.bd ++ p.g.bd } }, ct := s.ct + 1 }
def Su.join (s : Su) (p : Pk) : Su := if s.joins p then s.join1 p else s

/-- One more packet behind what is joined so far. -/
def coal1 (acc : List Su) (p : Pk) : List Su :=
  match acc.getLast? with
  | some s => if s.joins p then acc.dropLast ++ [s.join p] else acc ++ [single p]
  | none => acc ++ [single p]
def coalA (acc : List Su) (l : List Pk) : List Su := l.foldl coal1 acc
def coal (l : List Pk) : List Su := coalA [] l
def reseg1 (s : Su) : List Pk := if s.ct = 1 then [s.p] else splitL s.p s.sz
def reseg (l : List Su) : List Pk := l.flatMap reseg1

/-! ### streams -/

def fIs (f : Fl) (x : Sm) : Bool := decide (x.f = f)
/-- The first of a kind is turned. -/
def modF (f : Fl) (g : Sm → Sm) : List Sm → List Sm
  | [] => []
  | x :: l => if x.f = f then g x :: l else x :: modF f g l
def Pk.syn (p : Pk) : Bool := !decide (bitsOf .i64 .and p.g.fl 2 = 0)
def Pk.rst (p : Pk) : Bool := !decide (bitsOf .i64 .and p.g.fl 4 = 0)
def Pk.fin (p : Pk) : Bool := !decide (bitsOf .i64 .and p.g.fl 1 = 0)
def Pk.udp (p : Pk) : ByteArray := word16 p.g.bd.size ++ p.g.bd
def updM (p : Pk) (x : Sm) : Sm :=
  if p.g.kd = 17 then { x with dt := x.dt ++ p.udp } else if p.syn = true then x else if x.dn = true ∨ p.rst = true then x else
    if (x.nx - p.g.sq) % 4294967296 ≤ p.g.bd.size then
      { x with dt := x.dt ++ p.g.bd.extract ((x.nx - p.g.sq) % 4294967296).toNat p.g.bd.size, nx := (x.nx + p.g.bd.size - (x.nx - p.g.sq) % 4294967296) % 4294967296, dn := p.fin }
    else x
def newM (p : Pk) : List Sm := if p.g.kd = 17 then [⟨p.flow, 0, p.udp, false⟩] else if p.syn = true then [⟨p.flow, (p.g.sq + 1) % 4294967296, ⟨#[]⟩, false⟩] else []
def dlv (l : List Sm) (p : Pk) : List Sm := if p.sup then (if l.any (fIs p.flow) then modF p.flow (updM p) l else l ++ newM p) else l
def dlvs (l : List Sm) (ps : List Pk) : List Sm := ps.foldl dlv l

theorem updM_f (p : Pk) (x : Sm) : (updM p x).f = x.f := by unfold updM; (repeat' split) <;> rfl

theorem modF_any {f : Fl} {g : Sm → Sm} (hg : ∀ x, (g x).f = x.f) (h : Fl) : ∀ l : List Sm, (modF f g l).any (fIs h) = l.any (fIs h)
  | [] => rfl
  | x :: l => by
    unfold modF
    split
    · simp [fIs, hg]
    · simp [modF_any hg h l]
theorem modF_modF {f : Fl} {g h : Sm → Sm} (hg : ∀ x, (g x).f = x.f) : ∀ l : List Sm, modF f h (modF f g l) = modF f (fun x => h (g x)) l
  | [] => rfl
  | x :: l => by
    by_cases e : x.f = f
    · simp [modF, e, hg]
    · simp [modF, e, modF_modF hg l]
theorem modF_congr {f : Fl} {g h : Sm → Sm} : ∀ l : List Sm, (∀ x ∈ l, x.f = f → g x = h x) → modF f g l = modF f h l
  | [], _ => rfl
  | x :: l, hh => by
    by_cases e : x.f = f
    · simp [modF, e, hh x (by simp) e]
    · simp [modF, e, modF_congr l fun y hy => hh y (by simp [hy])]
theorem modF_id {f : Fl} : ∀ l : List Sm, modF f (fun x => x) l = l
  | [] => rfl
  | x :: l => by
    by_cases e : x.f = f
    · simp [modF, e]
    · simp [modF, e, modF_id l]
theorem modF_len {f : Fl} {g : Sm → Sm} : ∀ l : List Sm, (modF f g l).length = l.length
  | [] => rfl
  | x :: l => by
    by_cases e : x.f = f
    · simp [modF, e]
    · simp [modF, e, modF_len l]
theorem modF_mem {f : Fl} {g : Sm → Sm} : ∀ (l : List Sm) (x : Sm), x ∈ modF f g l → x ∈ l ∨ ∃ y ∈ l, y.f = f ∧ x = g y
  | [], x, h => by simp [modF] at h
  | y :: l, x, h => by
    by_cases e : y.f = f
    · simp [modF, e] at h
      rcases h with h | h
      · exact .inr ⟨y, by simp, e, h⟩
      · exact .inl (by simp [h])
    · simp [modF, e] at h
      rcases h with h | h
      · exact .inl (by simp [h])
      · rcases modF_mem l x h with h | ⟨z, h1, h2⟩
        · exact .inl (by simp [h])
        · exact .inr ⟨z, by simp [h1], h2⟩
theorem dlvs_nil (l : List Sm) : dlvs l [] = l := rfl
theorem dlvs_cons (l : List Sm) (p : Pk) (ps : List Pk) : dlvs l (p :: ps) = dlvs (dlv l p) ps := rfl
theorem dlvs_app (l : List Sm) (ps qs : List Pk) : dlvs l (ps ++ qs) = dlvs (dlvs l ps) qs := by unfold dlvs; rw [List.foldl_append]

/-! ### the flags -/

theorem fl32 {Q : Int → Prop} [DecidablePred Q] (h : ∀ n : _root_.Fin 32, Q ((n.val : Nat) : Int)) {x : Int} (hx : 0 ≤ x ∧ x ≤ 31) : Q x := by
  obtain ⟨n, rfl⟩ : ∃ n : Nat, x = n := ⟨x.toNat, by omega⟩
  exact h ⟨n, by omega⟩
theorem an9_range {x : Int} (hx : 0 ≤ x ∧ x ≤ 31) : 0 ≤ an9v x ∧ an9v x ≤ 31 := fl32 (Q := fun x => 0 ≤ an9v x ∧ an9v x ≤ 31) (by decide +kernel) hx
theorem an9_syn {x : Int} (hx : 0 ≤ x ∧ x ≤ 31) : (bitsOf .i64 .and (an9v x) 2 = 0 ↔ bitsOf .i64 .and x 2 = 0) ∧ (bitsOf .i64 .and (an9v x) 4 = 0 ↔ bitsOf .i64 .and x 4 = 0) ∧ bitsOf .i64 .and (an9v x) 1 = 0 ∧ bitsOf .i64 .and (an9v x) 9 = 0 ∧ an9v (an9v x) = an9v x :=
  fl32 (Q := fun x => (bitsOf .i64 .and (an9v x) 2 = 0 ↔ bitsOf .i64 .and x 2 = 0) ∧ (bitsOf .i64 .and (an9v x) 4 = 0 ↔ bitsOf .i64 .and x 4 = 0) ∧ bitsOf .i64 .and (an9v x) 1 = 0 ∧ bitsOf .i64 .and (an9v x) 9 = 0 ∧ an9v (an9v x) = an9v x) (by decide +kernel) hx
theorem an9_strm {x : Int} (hx : Strm x) : an9v x = 16 := by
  rcases hx with rfl | rfl | rfl | rfl <;> decide +kernel
theorem strm_marks {x : Int} (hx : Strm x) : bitsOf .i64 .and x 2 = 0 ∧ bitsOf .i64 .and x 4 = 0 := by
  rcases hx with rfl | rfl | rfl | rfl <;> decide +kernel
theorem sup_flags {p : Pk} (h : p.sup) : 0 ≤ p.g.fl ∧ p.g.fl ≤ 31 := segB h.1

/-! ### what sup says -/

theorem Pk.sup.bd {p : Pk} (h : p.sup) : p.g.bd.size ≤ 320 := by have := h.1; unfold SegOk at this; omega
theorem Pk.sup.sq {p : Pk} (h : p.sup) : 0 ≤ p.g.sq ∧ p.g.sq ≤ 4294967295 := by have := h.1; unfold SegOk at this; omega
theorem Pk.sup.idr {p : Pk} (h : p.sup) : 0 ≤ p.id ∧ p.id ≤ 65535 := by have := h.2; unfold PkB at this; omega
theorem Pk.sup.kd {p : Pk} (h : p.sup) : p.g.kd = 6 ∨ p.g.kd = 17 := by have := h.1; unfold SegOk at this; omega
theorem Pk.sup.tcp {p : Pk} (h : p.sup) (hk : p.g.kd = 6) : (0 ≤ p.g.ak ∧ p.g.ak ≤ 4294967295) ∧ (0 ≤ p.g.wn ∧ p.g.wn ≤ 65535) := by have := h.1; unfold SegOk at this; omega

theorem piece_sup {p : Pk} {z k : Nat} (h : p.sup) (hk : p.g.kd = 6) (hz : 1 ≤ z ∧ z ≤ 128) : (piece p z k).one := by
  have hf := sup_flags h
  have ha := an9_range hf
  have hsz : (piece p z k).g.bd.size ≤ z := by
    have : (k + 1) * z = k * z + z := Nat.succ_mul _ _
    simp only [piece, ByteArray.size_extract]; omega
  have h1 := h.1
  have h2 := h.2
  refine ⟨⟨?_, ?_⟩, by omega⟩
  · unfold SegOk at h1 ⊢
    obtain ⟨g1, g2, g3, g4⟩ := h1
    refine ⟨g1, g2, by omega, .inr ⟨hk, ?_, by simp only [piece]; omega, ?_, by simp only [piece]; omega⟩⟩
    · simp only [piece]; omega
    · simp only [piece]; split <;> omega
  · unfold PkB at h2 ⊢
    simp only [piece] at hsz ⊢
    omega
end Go.Proofs.Ytgkedbhpeafbbaa
