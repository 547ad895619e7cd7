/-
  RISING LISTS OF NUMBERS, plainly: a number put in.
  No condition.
-/
import Derived.Test.YtnflammoeakgfaaGreatNtOps6
namespace Go.Nt.Li
open Go Go.Nt
def insI (n:Int) (l:List Int):List Int:=if l.contains n then l else l.take (l.countP (· < n))++n::l.drop (l.countP (· < n))
theorem mem_insI (n:Int) (l:List Int) (x:Int):x∈insI n l↔x=n∨x∈l:=by
 unfold insI
 split
 ·next h=>
  have hn:n∈l:=by simpa using h
  exact ⟨.inr,fun h=>h.elim (fun e=>e ▸ hn) id⟩
 ·have e:x∈l↔x∈l.take (l.countP (· < n))∨x∈l.drop (l.countP (· < n)):=by rw [←List.mem_append,List.take_append_drop]
  simp only [List.mem_append,List.mem_cons,e]
  constructor
  ·rintro (h | h | h) <;> simp_all
  ·rintro (h | h | h) <;> simp_all
theorem insI_len (n:Int) (l:List Int):(insI n l).length≤l.length+1:=by
 unfold insI
 split
 ·omega
 ·have:=List.countP_le_length (p:=fun x=>decide (x < n)) (l:=l)
  simp; omega
theorem insI_same {n:Int} {l:List Int} (h:l.contains n=true):insI n l=l:=by unfold insI; rw [if_pos h]
theorem rises_iff:∀ (l:List Int),rises l=true↔l.Pairwise (·≤·)
 | []=>by simp [rises]
 | [a]=>by simp [rises]
 | a::b::l=>by
  simp only [rises,Bool.and_eq_true,decide_eq_true_eq,rises_iff (b::l),List.pairwise_cons]
  constructor
  ·rintro ⟨h,h1,h2⟩
   exact ⟨fun c hc=>by
    rcases List.mem_cons.1 hc with rfl | hc
    ·exact h
    ·exact Int.le_trans h (h1 c hc),h1,h2⟩
  ·rintro ⟨h,h1,h2⟩
   exact ⟨h b (by simp),h1,h2⟩
theorem count_split:∀ (l:List Int) (n:Int),l.Pairwise (·≤·)→(∀ x,x∈l.take (l.countP (· < n))→x < n)∧∀ x,x∈l.drop (l.countP (· < n))→n≤x
 | [],n,_=>by simp
 | a::l,n,h=>by
  have h':=List.pairwise_cons.1 h
  by_cases ha:a < n
  ·obtain ⟨h1,h2⟩:=count_split l n h'.2
   have e:(a::l).countP (· < n)=l.countP (· < n)+1:=by simp [List.countP_cons,ha]
   rw [e]
   simp only [List.take_succ_cons,List.drop_succ_cons,List.mem_cons]
   exact ⟨fun x hx=>hx.elim (fun e=>e ▸ ha) (h1 x),h2⟩
  ·have e0:∀ x,x∈a::l→n≤x:=fun x hx=>by
    rcases List.mem_cons.1 hx with rfl | hx
    ·omega
    ·have:=h'.1 x hx; omega
   have e:(a::l).countP (· < n)=0:=List.countP_eq_zero.2 fun x hx=>by have:=e0 x hx; simp; omega
   rw [e]
   exact ⟨fun x hx=>by simp at hx,fun x hx=>e0 x (by simpa using hx)⟩
theorem rises_insI {n:Int} {l:List Int} (h:rises l=true):rises (insI n l)=true:=by
 unfold insI
 split
 ·exact h
 ·rw [rises_iff] at h ⊢
  obtain ⟨h1,h2⟩:=count_split l n h
  have hp:(l.take (l.countP (· < n))++l.drop (l.countP (· < n))).Pairwise (·≤·):=by rw [List.take_append_drop]; exact h
  rw [List.pairwise_append] at hp ⊢
  refine ⟨hp.1,List.pairwise_cons.2 ⟨h2,hp.2.1⟩,fun a ha b hb=>?_⟩
  rcases List.mem_cons.1 hb with rfl | hb
  ·exact Int.le_of_lt (h1 a ha)
  ·exact hp.2.2 a ha b hb
end Go.Nt.Li
