/- parlkeep2.LayoutWellFormed. -/
import Derived.Test.YtpgpognmdejdaaaVLayoutWF
import Derived.Test.YtpgpognmdejdaaaCLayTok
set_option linter.all false
namespace Go.Proofs.Ytpgpognmdejdaaa
open Go Go.Proofs.Ytpgpognmdejdaaa.GH

/-- The law's own example. -/
theorem tok_one : tokR (ByteArray.mk #[97]) ⟨0, 1, 2⟩ [⟨3, 0, 1⟩] = .ok [⟨3, 0, 1⟩, ⟨2, 1, 1⟩] := by rfl

theorem LayoutWellFormed_spec {L : GHeap} {text : ByteArray} {s : Sl} {l : List Tok} {k : Ar3} (hs : IsSl rTok L s l) : ACalls PP parlkeep2_LayoutWellFormed.id [.string text, .slice s.a s.n s.c, ar3V k] L fun v L' => v = .bool true ∧ Le L L' := by
  have hn := hs.n
  apply parlkeep2_LayoutWellFormed.go
  intro b18 hu
  simp only [inL]
  have hle0 : Le L (L.alloc b18 [.int .i64 3, .int .i64 0, .int .i64 1] 3) := .alloc hu _ _
  have h18 : IsSl rTok (L.alloc b18 [.int .i64 3, .int .i64 0, .int .i64 1] 3) ⟨some ⟨b18, 0, none⟩, 1, 1⟩ [⟨3, 0, 1⟩] := IsSl.of_cells tok_cells rfl (Nat.le_refl _) alloc_reads
  generalize L.alloc b18 [.int .i64 3, .int .i64 0, .int .i64 1] 3 = L1 at *
  refine (Tokens_spec (text := ByteArray.mk #[97]) (k := ⟨0, 1, 2⟩) h18).mono ?_
  rintro v L2 ⟨hle1, so, e, rfl, hr⟩
  rw [tok_one] at hr
  rcases hr with ⟨_, h, _⟩ | ⟨rfl, out, h, ho⟩
  · cases h
  cases h
  have hon := ho.n
  refine ⟨so, _, rfl, bcF (by rfl) (bcF (by rw [hon]; rfl) ?_)⟩
  have hle2 := hle0.trans hle1
  refine (Tokens_spec (text := text) (k := k) (hs.mono hle2.toLeM)).mono ?_
  rintro v L3 ⟨hle3, so, e, rfl, hr⟩
  have hle4 := hle2.trans hle3
  rcases hr with ⟨he, hr, rfl⟩ | ⟨rfl, out, hr, ho⟩
  · exact ⟨⟨none, 0, 0⟩, e, rfl, bcT (by simpa using he) ⟨rfl, hle4⟩⟩
  refine ⟨so, 0, rfl, bcF (by rfl) ?_⟩
  have hc0 : lchk text.size k l = 0 := by
    unfold tokR at hr
    by_cases h : lchk text.size k l = 0
    · exact h
    · rw [if_pos h] at hr; cases hr
  have hok := lchk_zero hc0
  have hlo : layOut (bg text) k text.size l = .ok out := by unfold tokR at hr; rw [if_neg (by simpa using hc0)] at hr; exact hr
  have hln := hok.len
  have hl : ∀ t ∈ l, ¬ isLay k t.kind := fun t ht => (hok.toks t ht).2.2.2
  obtain ⟨⟨ls, hls⟩, hmany⟩ := lay_lines hok.dis (bg_le text) hl hlo
  have hstrip := lay_strip hl hlo
  have hlen := lay_len (bg_le text) hlo
  have hlr : linesR k out = .ok ls := by
    unfold linesR
    rw [if_neg (by omega), if_neg (by rintro (h | h | h); exact hok.dis.ab h; exact hok.dis.ac h; exact hok.dis.bc h), hls]
  have hon := ho.n
  have key : ∀ i, i ≤ out.length → ∀ m : Int, 0 ≤ m → m ≤ i → manyM k m (out.drop i) = some 0 → parlkeep2_LayoutWellFormed.c9 (fun v L' => v = .bool true ∧ Le L L') s so m so ((so.n : Nat) : Int) ((i : Nat) : Int) k.a k.b k.c L3 := by
    refine down ?_ ?_
    · intro m _ _ hm
      rw [List.drop_length] at hm
      simp only [manyM, Option.some.injEq] at hm
      subst hm
      apply parlkeep2_LayoutWellFormed.go9
      refine bcD (fun h => absurd h (by omega)) fun _ => ?_
      refine (Lines_spec (k := k) ho).mono ?_
      rintro v L4 ⟨hle5, sl, e, rfl, hr⟩
      rw [hlr] at hr
      rcases hr with ⟨_, h, _⟩ | ⟨rfl, _, _, _⟩
      · cases h
      refine ⟨sl, 0, rfl, bcT (by rfl) (bcT (by rfl) ?_)⟩
      refine (Strip_spec (k := k) (ho.mono hle5.toLeM) (by omega)).mono ?_
      rintro v L5 ⟨hle6, sp, rfl, hsp⟩
      rw [hstrip] at hsp
      refine ⟨sp, rfl, (EqualTok_ro hsp (hs.mono ((hle4.trans hle5).trans hle6).toLeM) (by omega)).use ⟨_, rfl, by simp, (hle4.trans hle5).trans hle6⟩⟩
    · intro i hi ih m h0 hmi hm
      rw [List.drop_eq_getElem_cons hi] at hm
      have hx := List.getElem?_eq_getElem hi
      generalize out[i] = t at *
      simp only [manyM] at hm
      have next : ∀ m' : Int, m' = (if t.kind = k.a then m + 1 else if t.kind = k.b then m - 1 else m) → m' ≤ ((i + 1 : Nat) : Int) → parlkeep2_LayoutWellFormed.c16 (fun v L' => v = .bool true ∧ Le L L') s so m' so ((so.n : Nat) : Int) ((i : Nat) : Int) k.a k.b k.c L3 := by
        intro m' hm' hmi'
        rw [← hm'] at hm
        apply parlkeep2_LayoutWellFormed.go16
        refine bcD (fun h => ?_) fun h => ?_
        · rw [if_pos h] at hm; cases hm
        · rw [if_neg h] at hm
          apply parlkeep2_LayoutWellFormed.go18
          unfold parlkeep2_LayoutWellFormed.t18
          rw [add_one (by omega)]
          exact ih m' (by omega) hmi' hm
      apply parlkeep2_LayoutWellFormed.go9
      refine bcD (fun _ => ?_) fun h => absurd (by omega) h
      refine ho.get hx fun a cs hK hc => ?_
      obtain rfl := hK
      refine ⟨_, _, _, hc, ⟨by omega, by omega⟩, bcE (fun ea => ?_) fun ea => ⟨⟨by omega, by omega⟩, bcE (fun eb => ?_) fun eb => ?_⟩⟩
      · rw [w64_in (by omega) (by omega)]
        exact next _ (by rw [if_pos ea]) (by omega)
      · rw [w64_in (by omega) (by omega)]
        exact next _ (by rw [if_neg ea, if_pos eb]) (by omega)
      · exact next _ (by rw [if_neg ea, if_neg eb]) (by omega)
  exact key 0 (Nat.zero_le _) 0 (Int.le_refl 0) (Int.le_refl 0) (by simpa using hmany)
end Go.Proofs.Ytpgpognmdejdaaa
