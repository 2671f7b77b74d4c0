/- Layer 12 (descr): descriptors as plain data: when they are right, their bytes, and what any bytes are. -/
import Derived.Test.YtgjbajjggmpmmaaNamed
import Derived.Test.YtgjbajjggmpmmaaPure08
import Derived.Test.YtgjbajjggmpmmaaPure01b
set_option linter.unusedSimpArgs false
set_option linter.unusedVariables false
namespace Go.S
open Go Go.Eng
structure Des where
  kind : Int
  alg : Int
  size : Int
  blk : Int
  off : Int
  loc : Int
  name : List UInt8
  salt : List UInt8
  dig : List UInt8
  key : List UInt8
  val : List UInt8
deriving DecidableEq
/-- How many bytes an algorithm's digest has. -/
def dsz (alg : Int) : Int := if alg == 1 then 32 else if alg == 2 then 64 else 0
namespace Des
def sums (d : Des) : Bool := d.alg == 0 && d.size == 0 && d.salt.length == 0 && d.dig.length == 0
def shape (d : Des) : Bool := d.blk == 0 && d.off == 0
def chain (d : Des) : Bool := d.loc == 0 && d.key.length == 0
def summed (d : Des) : Bool := (d.alg == 1 || d.alg == 2) && decide ((d.dig.length : Int) = dsz d.alg) && decide (d.salt.length ≤ 64)
def shp (d : Des) : Shp := ⟨d.size, d.blk, dsz d.alg⟩
def right (d : Des) : Bool :=
  if d.kind = 0 then d.sums && d.shape && d.chain && named d.name && decide (d.val.length ≤ 256)
  else if d.kind = 1 then d.chain && d.val.length == 0 && named d.name && d.summed && d.shp.right && decide (d.off ≥ d.size) && decide (d.off ≤ 1099511627776)
  else if d.kind = 2 then d.shape && d.chain && d.val.length == 0 && named d.name && d.summed && decide (d.size ≥ 0) && decide (d.size ≤ 1099511627776)
  else if d.kind = 3 then d.sums && d.shape && d.chain && d.name.length == 0 && decide (d.val.length ≤ 256)
  else if d.kind = 4 then d.sums && d.shape && d.val.length == 0 && named d.name && decide (d.loc ≥ 1) && decide (d.loc ≤ 31) && decide (d.key.length ≥ 1) && decide (d.key.length ≤ 1032)
  else false
def txs (d : Des) : List (List UInt8) := [d.name, d.salt, d.dig, d.key, d.val]
def hd (d : Des) : List UInt8 := be 4 d.alg.toNat ++ be 8 d.size.toNat ++ be 4 d.blk.toNat ++ be 8 d.off.toNat ++ be 4 d.loc.toNat
def lens (d : Des) : List UInt8 := d.txs.flatMap fun t => be 4 t.length
def raw (d : Des) : List UInt8 := d.hd ++ d.lens ++ d.txs.flatten
def pad8 (b : List UInt8) : List UInt8 := b ++ List.replicate ((8 - b.length % 8) % 8) 0
def body (d : Des) : List UInt8 := pad8 d.raw
def enc (d : Des) : List UInt8 := be 8 d.kind.toNat ++ be 8 d.body.length ++ d.body
/-- May another one not stand beside it? -/
def like (d o : Des) : Bool := d.kind == o.kind && d.kind != 3 && d.name == o.name
structure Fits (d : Des) : Prop where
  kind : 0 ≤ d.kind ∧ d.kind ≤ 4
  alg : 0 ≤ d.alg ∧ d.alg ≤ 2
  size : 0 ≤ d.size ∧ d.size ≤ 1099511627776
  blk : 0 ≤ d.blk ∧ d.blk ≤ 4096
  off : 0 ≤ d.off ∧ d.off ≤ 1099511627776
  loc : 0 ≤ d.loc ∧ d.loc ≤ 31
  name : d.name.length ≤ 24
  salt : d.salt.length ≤ 64
  dig : d.dig.length ≤ 64
  key : d.key.length ≤ 1032
  val : d.val.length ≤ 256
theorem summed_fits {d : Des} (h : d.summed = true) : (0 ≤ d.alg ∧ d.alg ≤ 2) ∧ d.salt.length ≤ 64 ∧ d.dig.length ≤ 64 := by
  unfold summed dsz at h
  simp only [Bool.and_eq_true, Bool.or_eq_true, beq_iff_eq, decide_eq_true_eq] at h
  obtain ⟨⟨h1, h2⟩, h3⟩ := h
  refine ⟨by omega, h3, ?_⟩
  rcases h1 with e | e
  · rw [if_pos e] at h2; omega
  · rw [if_neg (by omega), if_pos e] at h2; omega
theorem named_len {l : List UInt8} (h : named l = true) : l.length ≤ 24 := by
  unfold named at h
  simp only [Bool.and_eq_true, decide_eq_true_eq] at h
  exact h.1.2
theorem fits {d : Des} (h : d.right = true) : d.Fits := by
  unfold right at h
  split at h
  · rename_i hk
    simp only [sums, shape, chain, Bool.and_eq_true, beq_iff_eq, decide_eq_true_eq] at h
    have := named_len h.1.2
    constructor <;> omega
  split at h
  · rename_i hk
    simp only [chain, Bool.and_eq_true, beq_iff_eq, decide_eq_true_eq] at h
    obtain ⟨⟨⟨⟨⟨⟨h1, h2⟩, h3⟩, h4⟩, h5⟩, h6⟩, h7⟩ := h
    have := named_len h3
    have h8 := summed_fits h4
    have o := Shp.ok_of h5
    have o1 : d.size = (d.shp.sN : Int) := o.s
    have o2 : d.blk = (d.shp.bN : Int) := o.b
    have o3 := o.s2
    have o4 := o.b2
    constructor <;> omega
  split at h
  · rename_i hk
    simp only [shape, chain, Bool.and_eq_true, beq_iff_eq, decide_eq_true_eq] at h
    obtain ⟨⟨⟨⟨⟨⟨h1, h2⟩, h3⟩, h4⟩, h5⟩, h6⟩, h7⟩ := h
    have := named_len h4
    have h8 := summed_fits h5
    constructor <;> omega
  split at h
  · rename_i hk
    simp only [sums, shape, chain, Bool.and_eq_true, beq_iff_eq, decide_eq_true_eq] at h
    constructor <;> omega
  split at h
  · rename_i hk
    simp only [sums, shape, Bool.and_eq_true, beq_iff_eq, decide_eq_true_eq] at h
    have := named_len h.1.1.1.1.2
    constructor <;> omega
  · cases h
theorem hd_len (d : Des) : d.hd.length = 28 := by simp [hd, be_length]
theorem lens_len (d : Des) : d.lens.length = 20 := by simp [lens, txs, be_length]
def txl (d : Des) : Nat := d.name.length + d.salt.length + d.dig.length + d.key.length + d.val.length
theorem raw_len (d : Des) : d.raw.length = 48 + d.txl := by
  simp only [raw, List.length_append, hd_len, lens_len, txs, List.flatten_cons, List.flatten_nil, List.append_nil, txl]
  omega
theorem pad8_len (b : List UInt8) : (pad8 b).length = (b.length + 7) / 8 * 8 := by
  simp only [pad8, List.length_append, List.length_replicate]
  omega
theorem body_len (d : Des) : d.body.length = 48 + (d.txl + 7) / 8 * 8 := by
  unfold body
  rw [pad8_len, raw_len]; omega
theorem enc_len (d : Des) : d.enc.length = 64 + (d.txl + 7) / 8 * 8 := by
  simp only [enc, List.length_append, be_length, body_len]; omega
theorem txl_le {d : Des} (f : d.Fits) : d.txl ≤ 1440 := by
  have := f.name
  have := f.salt
  have := f.dig
  have := f.key
  have := f.val
  unfold txl; omega
end Des
/-! ### bytes, read -/
def num (b : List UInt8) (o n : Nat) : Nat := beN ((b.drop o).take n)
theorem num_at {a r : List UInt8} {n v o : Nat} (ho : a.length = o) (hv : v < 256 ^ n) : num (a ++ (be n v ++ r)) o n = v := by
  unfold num
  rw [List.drop_left' ho, List.take_left' (be_length n v)]
  exact beN_be n v hv
def tn (b : List UInt8) (i : Nat) : Nat := num b (28 + 4 * i) 4
def tf (b : List UInt8) : Nat → Nat
  | 0 => 48
  | i + 1 => tf b i + tn b i
def tt (b : List UInt8) (i : Nat) : List UInt8 := (b.drop (tf b i)).take (tn b i)
def desAt (kind : Int) (b : List UInt8) : Des := ⟨kind, num b 0 4, num b 4 8, num b 12 4, num b 16 8, num b 24 4, tt b 0, tt b 1, tt b 2, tt b 3, tt b 4⟩
def rd (kind : Int) (b : List UInt8) : Bool := decide (48 ≤ b.length) && decide (tf b 5 ≤ b.length) && ((desAt kind b).right && (desAt kind b).body == b)
theorem cut_at {a t r : List UInt8} {o n : Nat} (ho : a.length = o) (hn : t.length = n) : ((a ++ (t ++ r)).drop o).take n = t := by
  rw [List.drop_left' ho, List.take_left' hn]
namespace Des
theorem four {n : Nat} (h : n ≤ 5000) : n < 256 ^ 4 := Nat.lt_of_le_of_lt h (by decide)
theorem desAt_body {d : Des} (f : d.Fits) (r : List UInt8) : desAt d.kind (d.raw ++ r) = d ∧ tf (d.raw ++ r) 5 = d.raw.length := by
  obtain ⟨f0, f1, f2, f3, f4, f5, g1, g2, g3, g4, g5⟩ := f
  have hb : d.raw ++ r = be 4 d.alg.toNat ++ (be 8 d.size.toNat ++ (be 4 d.blk.toNat ++ (be 8 d.off.toNat ++ (be 4 d.loc.toNat ++ (be 4 d.name.length ++ (be 4 d.salt.length ++ (be 4 d.dig.length ++ (be 4 d.key.length ++ (be 4 d.val.length ++ (d.name ++ (d.salt ++ (d.dig ++ (d.key ++ (d.val ++ r)))))))))))))) := by
    simp [raw, hd, lens, txs, List.append_assoc]
  have b8 : ∀ {n : Int}, 0 ≤ n → n ≤ 1099511627776 → n.toNat < 256 ^ 8 := fun h1 h2 => Nat.lt_of_le_of_lt (m := 1099511627776) (by omega) (by decide)
  have hl : (d.raw ++ r).length = d.raw.length + r.length := List.length_append
  generalize hB : d.raw ++ r = B at hb
  have e0 : num B 0 4 = d.alg.toNat := by rw [hb]; exact num_at (a := []) rfl (four (by omega))
  have e1 : num B 4 8 = d.size.toNat := by rw [hb]; exact num_at (a := be 4 d.alg.toNat) (by simp [be_length]) (b8 f2.1 f2.2)
  have e2 : num B 12 4 = d.blk.toNat := by
    rw [hb, ← List.append_assoc (be 4 d.alg.toNat)]; exact num_at (by simp [be_length]) (four (by omega))
  have e3 : num B 16 8 = d.off.toNat := by
    rw [hb, ← List.append_assoc (be 4 d.alg.toNat), ← List.append_assoc (_ ++ be 8 d.size.toNat)]; exact num_at (by simp [be_length]) (b8 f4.1 f4.2)
  have e4 : num B 24 4 = d.loc.toNat := by
    rw [hb, ← List.append_assoc (be 4 d.alg.toNat), ← List.append_assoc (_ ++ be 8 d.size.toNat), ← List.append_assoc (_ ++ be 4 d.blk.toNat)]; exact num_at (by simp [be_length]) (four (by omega))
  have hb2 : B = d.hd ++ (be 4 d.name.length ++ (be 4 d.salt.length ++ (be 4 d.dig.length ++ (be 4 d.key.length ++ (be 4 d.val.length ++ (d.name ++ (d.salt ++ (d.dig ++ (d.key ++ (d.val ++ r)))))))))) := by rw [hb]; simp [hd, List.append_assoc]
  have hh := hd_len d
  have t0 : tn B 0 = d.name.length := by unfold tn; rw [hb2]; exact num_at hh (four (by omega))
  have t1 : tn B 1 = d.salt.length := by unfold tn; rw [hb2, ← List.append_assoc d.hd]; exact num_at (by simp [be_length, hh]) (four (by omega))
  have t2 : tn B 2 = d.dig.length := by unfold tn; rw [hb2, ← List.append_assoc d.hd, ← List.append_assoc (d.hd ++ _)]; exact num_at (by simp [be_length, hh]) (four (by omega))
  have t3 : tn B 3 = d.key.length := by unfold tn; rw [hb2, ← List.append_assoc d.hd, ← List.append_assoc (d.hd ++ _), ← List.append_assoc (d.hd ++ _ ++ _)]; exact num_at (by simp [be_length, hh]) (four (by omega))
  have t4 : tn B 4 = d.val.length := by unfold tn; rw [hb2, ← List.append_assoc d.hd, ← List.append_assoc (d.hd ++ _), ← List.append_assoc (d.hd ++ _ ++ _), ← List.append_assoc (d.hd ++ _ ++ _ ++ _)]; exact num_at (by simp [be_length, hh]) (four (by omega))
  have hb3 : B = (d.hd ++ d.lens) ++ (d.name ++ (d.salt ++ (d.dig ++ (d.key ++ (d.val ++ r))))) := by rw [hb2]; simp [lens, txs, List.append_assoc]
  have hp : (d.hd ++ d.lens).length = 48 := by rw [List.length_append, hd_len, lens_len]
  have x1 : tf B 1 = 48 + d.name.length := by show 48 + tn B 0 = _; rw [t0]
  have x2 : tf B 2 = 48 + d.name.length + d.salt.length := by show tf B 1 + tn B 1 = _; rw [x1, t1]
  have x3 : tf B 3 = 48 + d.name.length + d.salt.length + d.dig.length := by show tf B 2 + tn B 2 = _; rw [x2, t2]
  have x4 : tf B 4 = 48 + d.name.length + d.salt.length + d.dig.length + d.key.length := by show tf B 3 + tn B 3 = _; rw [x3, t3]
  have x5 : tf B 5 = 48 + d.name.length + d.salt.length + d.dig.length + d.key.length + d.val.length := by show tf B 4 + tn B 4 = _; rw [x4, t4]
  have y0 : tt B 0 = d.name := by unfold tt; rw [t0, show tf B 0 = 48 from rfl, hb3]; exact cut_at hp rfl
  have y1 : tt B 1 = d.salt := by unfold tt; rw [t1, x1, hb3, ← List.append_assoc (d.hd ++ d.lens)]; exact cut_at (by rw [List.length_append, hp]) rfl
  have y2 : tt B 2 = d.dig := by unfold tt; rw [t2, x2, hb3, ← List.append_assoc (d.hd ++ d.lens), ← List.append_assoc (d.hd ++ d.lens ++ _)]; exact cut_at (by rw [List.length_append, List.length_append, hp]) rfl
  have y3 : tt B 3 = d.key := by unfold tt; rw [t3, x3, hb3, ← List.append_assoc (d.hd ++ d.lens), ← List.append_assoc (d.hd ++ d.lens ++ _), ← List.append_assoc (d.hd ++ d.lens ++ _ ++ _)]; exact cut_at (by rw [List.length_append, List.length_append, List.length_append, hp]) rfl
  have y4 : tt B 4 = d.val := by unfold tt; rw [t4, x4, hb3, ← List.append_assoc (d.hd ++ d.lens), ← List.append_assoc (d.hd ++ d.lens ++ _), ← List.append_assoc (d.hd ++ d.lens ++ _ ++ _), ← List.append_assoc (d.hd ++ d.lens ++ _ ++ _ ++ _)]; exact cut_at (by rw [List.length_append, List.length_append, List.length_append, List.length_append, hp]) rfl
  refine ⟨?_, ?_⟩
  · unfold desAt
    rw [e0, e1, e2, e3, e4, y0, y1, y2, y3, y4, Int.toNat_of_nonneg f1.1, Int.toNat_of_nonneg f2.1, Int.toNat_of_nonneg f3.1, Int.toNat_of_nonneg f4.1, Int.toNat_of_nonneg f5.1]
  · rw [x5, raw_len]; unfold txl; omega
theorem rd_body {d : Des} (h : d.right = true) : rd d.kind d.body = true ∧ desAt d.kind d.body = d := by
  obtain ⟨h1, h2⟩ := desAt_body (fits h) (List.replicate ((8 - d.raw.length % 8) % 8) 0)
  have hb : d.raw ++ List.replicate ((8 - d.raw.length % 8) % 8) 0 = d.body := rfl
  rw [hb] at h1 h2
  refine ⟨?_, h1⟩
  unfold rd
  rw [h1, h, h2]
  have hl := body_len d
  have hr := raw_len d
  rw [decide_eq_true (show 48 ≤ d.body.length by omega), decide_eq_true (show d.raw.length ≤ d.body.length by omega)]
  simp
end Des
/-! ### lists of descriptors -/
def encs (ds : List Des) : List UInt8 := ds.flatMap Des.enc
def tw : List Des → List Des → Bool
  | _, [] => false
  | p, d :: ds => p.any d.like || tw (p ++ [d]) ds
def encErr (ds : List Des) : Int := if ds.length > 32 then 11 else if ds.all Des.right = false then 12 else if tw [] ds then 35 else 0
def pars : Nat → List Des → List UInt8 → List Des × Int
  | 0, _, _ => ([], 0)
  | f + 1, out, b => if b.length = 0 then (out, 0) else if out.length = 32 then ([], 11) else if b.length < 16 then ([], 10) else
    if num b 0 8 > 4 then ([], 33) else if num b 8 8 > b.length - 16 then ([], 10) else
    if rd (num b 0 8) ((b.drop 16).take (num b 8 8)) = false then ([], 12) else
    if out.any (desAt (num b 0 8) ((b.drop 16).take (num b 8 8))).like then ([], 35) else
    pars f (out ++ [desAt (num b 0 8) ((b.drop 16).take (num b 8 8))]) (b.drop (16 + num b 8 8))
namespace Des
theorem enc_parts {d : Des} (h : d.right = true) (r : List UInt8) : num (d.enc ++ r) 0 8 = d.kind.toNat ∧ num (d.enc ++ r) 8 8 = d.body.length ∧ ((d.enc ++ r).drop 16).take d.body.length = d.body ∧ (d.enc ++ r).drop (16 + d.body.length) = r := by
  have f := fits h
  have hl := body_len d
  have ht := txl_le f
  have hb : d.enc ++ r = be 8 d.kind.toNat ++ (be 8 d.body.length ++ (d.body ++ r)) := by simp [enc, List.append_assoc]
  have hk := f.kind
  rw [hb]
  refine ⟨num_at (a := []) rfl (Nat.lt_of_le_of_lt (m := 4) (by omega) (by decide)), num_at (be_length _ _) (Nat.lt_of_le_of_lt (m := 5000) (by omega) (by decide)), ?_, ?_⟩
  · rw [← List.append_assoc]; exact cut_at (by simp [be_length]) rfl
  · rw [← List.append_assoc, ← List.append_assoc]; exact List.drop_left' (by simp [be_length]; omega)
theorem pars_step {d : Des} (h : d.right = true) (f : Nat) (out : List Des) (r : List UInt8) : pars (f + 1) out (d.enc ++ r) = if out.length = 32 then ([], 11) else if out.any d.like then ([], 35) else pars f (out ++ [d]) r := by
  obtain ⟨h1, h2, h3, h4⟩ := enc_parts h r
  have fk := (fits h).kind
  have hl := body_len d
  have he := enc_len d
  obtain ⟨r1, r2⟩ := rd_body h
  have hlen : (d.enc ++ r).length = d.enc.length + r.length := List.length_append
  rw [pars, if_neg (by omega), h1, h2, h3, h4, Int.toNat_of_nonneg fk.1, r1, r2]
  split
  · rfl
  · rw [if_neg (by omega), if_neg (by omega), if_neg (by omega), if_neg (by simp)]
theorem pars_encs : ∀ (ds out : List Des) (f : Nat) (r : List UInt8), (∀ d ∈ ds, d.right = true) → tw out ds = false → out.length + ds.length ≤ 32 → pars (f + ds.length) out (encs ds ++ r) = pars f (out ++ ds) r
  | [], out, f, r, _, _, _ => by simp [encs]
  | d :: ds, out, f, r, hr, ht, hl => by
    unfold tw at ht
    rw [Bool.or_eq_false_iff] at ht
    have e : encs (d :: ds) ++ r = d.enc ++ (encs ds ++ r) := by simp [encs, List.append_assoc]
    rw [List.length_cons] at hl ⊢
    rw [e, show f + (ds.length + 1) = (f + ds.length) + 1 by omega, pars_step (hr d (by simp)), if_neg (by omega), if_neg (by rw [ht.1]; simp),
      pars_encs ds (out ++ [d]) f r (fun x hx => hr x (by simp [hx])) ht.2 (by rw [List.length_append]; simp; omega)]
    simp
/-- What is read is written as the same bytes. -/
theorem pars_ok : ∀ (f : Nat) (out res : List Des) (b : List UInt8), b.length < f → pars f out b = (res, 0) → ∃ ds, res = out ++ ds ∧ encs ds = b ∧ (∀ d ∈ ds, d.right = true) ∧ tw out ds = false ∧ (out.length ≤ 32 → res.length ≤ 32)
  | 0, _, _, _, h, _ => by omega
  | f + 1, out, res, b, hf, h => by
    rw [pars] at h
    split at h
    · rename_i h0
      cases h
      exact ⟨[], by simp, by rw [List.length_eq_zero_iff.1 h0]; rfl, fun d (hd : d ∈ []) => (by cases hd), rfl, id⟩
    rename_i h0
    split at h
    · cases h
    rename_i h32
    split at h
    · cases h
    rename_i h16
    split at h
    · cases h
    rename_i h4
    split at h
    · cases h
    rename_i hn
    split at h
    · cases h
    rename_i hrd
    split at h
    · cases h
    rename_i ha
    have hrd' : rd (num b 0 8) ((b.drop 16).take (num b 8 8)) = true := by simpa using hrd
    generalize hD : desAt (num b 0 8) ((b.drop 16).take (num b 8 8)) = D at h ha
    have hrd2 := hrd'
    unfold rd at hrd2
    rw [hD] at hrd2
    simp only [Bool.and_eq_true, decide_eq_true_eq, beq_iff_eq] at hrd2
    obtain ⟨⟨_, _⟩, hr, hbody⟩ := hrd2
    obtain ⟨ds, h1, h2, h3, h5, h6⟩ := pars_ok f (out ++ [D]) res (b.drop (16 + num b 8 8)) (by rw [List.length_drop]; omega) h
    have hk : D.kind = num b 0 8 := by rw [← hD]; rfl
    have hbl : D.body.length = num b 8 8 := by rw [hbody, List.length_take, List.length_drop]; omega
    have hl8 : ((b.drop 0).take 8).length = 8 := by simp; omega
    have hl82 : ((b.drop 8).take 8).length = 8 := by simp; omega
    have hbe : ∀ l : List UInt8, l.length = 8 → be 8 (beN l) = l := fun l hl => by
      have h := beN_lt l
      rw [hl] at h
      exact (beN_inj (by rw [be_length, hl])).2 (beN_be 8 _ h)
    have henc : D.enc = b.take (16 + num b 8 8) := by
      unfold enc
      rw [hk, hbl, hbody, Int.toNat_natCast]
      unfold num
      rw [hbe _ hl8, hbe _ hl82, List.drop_zero]
      have q := List.take_append_drop 8 (b.take 16)
      rw [List.take_take, List.drop_take] at q
      have q2 := List.take_append_drop 16 (b.take (16 + beN ((b.drop 8).take 8)))
      rw [List.take_take, List.drop_take] at q2
      rw [show min 8 16 = 8 by rfl] at q
      rw [show min 16 (16 + beN ((b.drop 8).take 8)) = 16 by omega, show 16 + beN ((b.drop 8).take 8) - 16 = beN ((b.drop 8).take 8) by omega] at q2
      rw [show (16 - 8 : Nat) = 8 from rfl] at q
      rw [q, q2]
    refine ⟨D :: ds, by rw [h1]; simp, ?_, ?_, ?_, fun h7 => h6 (by rw [List.length_append]; simp; omega)⟩
    · show D.enc ++ encs ds = b
      rw [henc, h2, List.take_append_drop]
    · intro x hx
      rcases List.mem_cons.1 hx with rfl | hx
      · exact hr
      · exact h3 x hx
    · unfold tw
      rw [h5, Bool.or_false]
      simpa using ha
/-- Bytes that are cut off. -/
theorem pars_cut : ∀ (ds out : List Des) (f n : Nat), (∀ d ∈ ds, d.right = true) → tw out ds = false → out.length + ds.length ≤ 32 → n < (encs ds).length →
    (∃ k, k < ds.length ∧ n = (encs (ds.take k)).length ∧ pars (f + 1 + ds.length) out ((encs ds).take n) = (out ++ ds.take k, 0)) ∨ ((∀ k, k < ds.length → n ≠ (encs (ds.take k)).length) ∧ pars (f + 1 + ds.length) out ((encs ds).take n) = ([], 10))
  | [], out, f, n, _, _, _, hn => by simp [encs] at hn
  | d :: ds, out, f, n, hr, ht, hl, hn => by
    have hd := hr d (by simp)
    unfold tw at ht
    rw [Bool.or_eq_false_iff] at ht
    rw [List.length_cons] at hl ⊢
    have e : encs (d :: ds) = d.enc ++ encs ds := by simp [encs]
    have he := enc_len d
    by_cases h0 : n = 0
    · subst h0
      refine .inl ⟨0, by omega, rfl, ?_⟩
      rw [List.take_zero, show f + 1 + (ds.length + 1) = (f + 1 + ds.length) + 1 by omega, pars, if_pos List.length_nil]
      simp
    · by_cases hlt : n < d.enc.length
      · refine .inr ⟨fun k hk hkn => ?_, ?_⟩
        · cases k with
          | zero => simp [encs] at hkn; omega
          | succ k =>
            rw [List.take_succ_cons] at hkn
            simp only [encs, List.flatMap_cons, List.length_append] at hkn
            omega
        · rw [e, List.take_append_of_le_length (by omega), show f + 1 + (ds.length + 1) = (f + 1 + ds.length) + 1 by omega]
          have hlen : (d.enc.take n).length = n := by rw [List.length_take]; omega
          obtain ⟨h1, h2, _, _⟩ := enc_parts hd []
          rw [List.append_nil] at h1 h2
          have fk := (fits hd).kind
          have hbl := body_len d
          rw [pars, if_neg (by omega), if_neg (by omega)]
          by_cases h16 : n < 16
          · rw [if_pos (by omega)]
          · have g1 : num (d.enc.take n) 0 8 = d.kind.toNat := by rw [← h1]; unfold num; rw [List.drop_zero, List.drop_zero, List.take_take, Nat.min_eq_left (by omega)]
            have g2 : num (d.enc.take n) 8 8 = d.body.length := by rw [← h2]; unfold num; rw [List.drop_take, List.take_take, Nat.min_eq_left (by omega)]
            rw [if_neg (by omega), g1, if_neg (by omega), g2, if_pos (by omega)]
      · have hsplit : (encs (d :: ds)).take n = d.enc ++ (encs ds).take (n - d.enc.length) := by
          rw [e, List.take_append, List.take_of_length_le (by omega)]
        have hn2 : n - d.enc.length < (encs ds).length := by
          rw [e, List.length_append] at hn; omega
        have ih := pars_cut ds (out ++ [d]) f (n - d.enc.length) (fun x hx => hr x (by simp [hx])) ht.2 (by rw [List.length_append]; simp; omega) hn2
        rw [hsplit, show f + 1 + (ds.length + 1) = (f + 1 + ds.length) + 1 by omega, pars_step hd, if_neg (by omega), if_neg (by rw [ht.1]; simp)]
        have hk1 : ∀ k, (encs ((d :: ds).take (k + 1))).length = d.enc.length + (encs (ds.take k)).length := fun k => by
          rw [List.take_succ_cons]; simp [encs]
        rcases ih with ⟨k, hk, hkn, hp⟩ | ⟨hno, hp⟩
        · refine .inl ⟨k + 1, by omega, by rw [hk1]; omega, ?_⟩
          rw [hp]; simp
        · refine .inr ⟨fun k hk hkn => ?_, hp⟩
          cases k with
          | zero => simp [encs] at hkn; omega
          | succ k =>
            rw [hk1] at hkn
            exact hno k (by omega) (by omega)
end Des
theorem encErr_ok {ds : List Des} (h : encErr ds = 0) : ds.length ≤ 32 ∧ (∀ d ∈ ds, d.right = true) ∧ tw [] ds = false := by
  unfold encErr at h
  split at h
  · cases h
  rename_i h1
  split at h
  · cases h
  rename_i h2
  split at h
  · cases h
  rename_i h3
  exact ⟨by omega, by simpa using h2, by simpa using h3⟩
theorem encErr_of {ds : List Des} (h1 : ds.length ≤ 32) (h2 : ∀ d ∈ ds, d.right = true) (h3 : tw [] ds = false) : encErr ds = 0 := by
  unfold encErr
  rw [if_neg (by omega), if_neg (by rw [List.all_eq_true.2 h2]; simp), if_neg (by rw [h3]; simp)]
theorem tw_take : ∀ (ds p : List Des) (k : Nat), tw p ds = false → tw p (ds.take k) = false
  | [], p, k, h => by rw [List.take_nil]; exact h
  | d :: ds, p, 0, h => rfl
  | d :: ds, p, k + 1, h => by
    unfold tw at h
    rw [Bool.or_eq_false_iff] at h
    rw [List.take_succ_cons]
    unfold tw
    rw [h.1, tw_take ds (p ++ [d]) k h.2]; rfl
theorem encErr_take {ds : List Des} (h : encErr ds = 0) (k : Nat) : encErr (ds.take k) = 0 := by
  obtain ⟨h1, h2, h3⟩ := encErr_ok h
  exact encErr_of (by rw [List.length_take]; omega) (fun d hd => h2 d (List.mem_of_mem_take hd)) (tw_take ds [] k h3)
theorem pars_round {ds : List Des} (h : encErr ds = 0) {f : Nat} (hf : (encs ds).length < f) : pars f [] (encs ds) = (ds, 0) := by
  obtain ⟨h1, h2, h3⟩ := encErr_ok h
  have hl : ∀ l : List Des, l.length ≤ (encs l).length := fun l => by
    induction l with
    | nil => simp
    | cons d l ih =>
      have := Des.enc_len d
      simp only [encs, List.flatMap_cons, List.length_append, List.length_cons] at ih ⊢
      omega
  have hl2 := hl ds
  have := Des.pars_encs ds [] (f - 1 - ds.length + 1) [] h2 h3 (by simp; omega)
  rw [List.append_nil, show f - 1 - ds.length + 1 + ds.length = f by omega, List.nil_append] at this
  rw [this, pars, if_pos List.length_nil]
end Go.S
